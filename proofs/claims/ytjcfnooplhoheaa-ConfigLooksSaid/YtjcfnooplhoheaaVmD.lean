/- Stores into values; the layout of a program's types; loads and stores run. -/
import Derived.Test.YtjcfnooplhoheaaVmC
noncomputable section
namespace Go.Vm
open Go

section
variable {g : Ghost} {loc : Loc}

theorem datFields_get : ∀ (ss : List Sh) (k i : Nat) (d : D) (s : Sh), ss[i]? = some s → (datFields ss k d)[i]? = some (.dat s (d.nth (k + i)))
  | [], _, _, _, _, h => by simp at h
  | a :: ss, k, 0, d, s, h => by simp at h; simp [datFields, h]
  | a :: ss, k, i + 1, d, s, h => by
    simp only [datFields, List.getElem?_cons_succ]
    rw [datFields_get ss (k + 1) i d s (by simpa using h)]
    congr 3; omega

theorem HC.putP_field {ps : List PS} {s2 : Sh} {v : HV} {us vs : List Value} {o2 : Nat} {ss : List Sh} {fs : List HV} {i : Nat} {s1 : Sh} {f f' : HV}
    (ih : ∀ {f : HV} {vs : List Value} {f' : HV}, HC g loc f vs → fits s1 f = true → f.putP ps v = some f' → HC g loc f' (splice vs o2 us) ∧ fits s1 f' = true ∧ o2 + s2.size ≤ s1.size)
    (hul : us.length = s2.size) (hl : vs.length = Sh.sizes ss)
    (hcs : HCs g loc ss fs vs) (hfs : fitss ss fs = true) (hs : ss[i]? = some s1) (hfi : fs[i]? = some f) (hne : f.putP ps v = some f') :
    HC g loc (.st ss (fs.set i f')) (splice vs (Sh.sizes (ss.take i) + o2) us) ∧ fits (.struct ss) (.st ss (fs.set i f')) = true ∧ Sh.sizes (ss.take i) + o2 + s2.size ≤ (Sh.struct ss).size := by
  obtain ⟨a1, a2⟩ := HCs.get i hcs hs hfi
  have hff := fitss_get hfs hs hfi
  obtain ⟨b1, b2, b3⟩ := ih a1 hff hne
  have hlen : (splice (chunk vs (Sh.sizes (ss.take i)) s1.size) o2 us).length = s1.size := by
    rw [splice_length _ _ _ (by rw [chunk_length _ _ _ a2, hul]; exact b3), chunk_length _ _ _ a2]
  have hi2 : i < fs.length := (List.getElem?_eq_some_iff.1 hfi).1
  have c := HCs.put hlen b1 i hcs hs hi2
  rw [splice_chunk _ _ _ _ _ (by rw [hul]; exact b3) a2] at c
  refine ⟨by simp only [HC]; exact c, ?_, by simp only [Sh.size]; omega⟩
  simp only [fits, Sh.beqs_refl, Bool.true_and]
  exact fitss_set hfs hs b2

theorem HC.putP : ∀ {p : List PS} {r s : Sh} {h v h' : HV} {vs us : List Value} {off : Nat}, HC g loc h vs → fits r h = true → r.navs p = some (s, off) → r.inPath p →
    HC g loc v us → fits s v = true → h.putP p v = some h' → HC g loc h' (splice vs off us) ∧ fits r h' = true ∧ off + s.size ≤ r.size
  | [], r, s, h, v, h', vs, us, off, hh, hf, hp, _, hv, hfv, hne => by
    simp only [Sh.navs, Option.some.injEq, Prod.mk.injEq] at hp
    obtain ⟨rfl, rfl⟩ := hp
    have h1 := HC.length hf hh
    have h2 := HC.length hfv hv
    have : splice vs 0 us = us := by
      simp only [splice, List.take_zero, List.nil_append, Nat.zero_add]
      rw [List.drop_of_length_le (by omega), List.append_nil]
    rw [this]
    simp only [HV.putP, Option.some.injEq] at hne
    subst hne
    exact ⟨hv, hfv, by omega⟩
  | p :: ps, r, s, h, v, h', vs, us, off, hh, hf, hp, hi, hv, hfv, hne => by
    have hp0 := hp
    have hul := HC.length hfv hv
    have hvl := HC.length hf hh
    simp only [Sh.navs] at hp
    split at hp
    · rename_i s1 o1 h1
      split at hp
      · rename_i s2 o2 h2
        simp only [Option.some.injEq, Prod.mk.injEq] at hp
        obtain ⟨rfl, rfl⟩ := hp
        have hi0 := hi
        simp only [Sh.inPath] at hi
        have ih : ∀ {f : HV} {vs : List Value} {f' : HV}, HC g loc f vs → fits s1 f = true → f.putP ps v = some f' → HC g loc f' (splice vs o2 us) ∧ fits s1 f' = true ∧ o2 + s2.size ≤ s1.size :=
          fun a b c => HC.putP a b h2 (hi.2 _ _ h1) hv hfv c
        simp only [HV.putP] at hne
        split at hne
        · rename_i s' d
          simp only [fits] at hf
          have := Sh.beq_eq hf
          subst this
          split at hne
          · rename_i t e
            simp only [fits] at hfv
            have := Sh.beq_eq hfv
            subst this
            simp only [Option.some.injEq] at hne
            subst hne
            simp only [HC] at hh hv ⊢
            have c := Rel.puts hh hp0 hi0 hv
            exact ⟨c, by simp [fits, Sh.beq_refl], (Rel.gets hh hp0 hi0).2⟩
          · split at hne
            · rename_i ss i
              split at hne
              · rename_i s3 hs3
                split at hne
                · rename_i f hf3
                  simp only [Option.some.injEq] at hne
                  subst hne
                  simp only [Sh.step, hs3, Option.some.injEq, Prod.mk.injEq] at h1
                  obtain ⟨rfl, rfl⟩ := h1
                  simp only [HC, Rel] at hh
                  exact HC.putP_field ih hul (by simpa [Sh.size] using hvl) (HCs_dat hh) (fitss_dat _ 0 d) hs3 (by simpa using datFields_get ss 0 i d s3 hs3) hf3
                · cases hne
              · cases hne
            · cases hne
        · rename_i ss fs
          cases r <;> simp only [fits, Bool.false_eq_true] at hf
          rename_i rs
          simp only [Bool.and_eq_true] at hf
          have := Sh.beqs_eq hf.1
          subst this
          simp only [HC] at hh
          split at hne
          · rename_i i
            split at hne
            · rename_i f hfi
              split at hne
              · rename_i f' hf3
                simp only [Option.some.injEq] at hne
                subst hne
                simp only [Sh.step] at h1
                split at h1
                · rename_i s3 hs3
                  simp only [Option.some.injEq, Prod.mk.injEq] at h1
                  obtain ⟨rfl, rfl⟩ := h1
                  exact HC.putP_field ih hul (by simpa [Sh.size] using hvl) hh hf.2 hs3 hfi hf3
                · cases h1
              · cases hne
            · cases hne
          · cases hne
        · cases hne
      · cases hp
    · cases hp
end

/-! ### Zero values -/
mutual
def D0 : Sh → D
  | .int _ => .I 0
  | .bool => .B false
  | .str => .S ByteArray.empty
  | .struct fs => .L (D0s fs)
  | .arr _ s => .F (fun _ => D0 s)
  | .slice _ => .L []
  | .ref => .Z
def D0s : List Sh → List D
  | [] => []
  | s :: ss => D0 s :: D0s ss
end

mutual
/-- No part is a slice or something else that leads elsewhere. -/
def Sh.flat : Sh → Bool
  | .struct fs => Sh.flats fs
  | .arr _ s => s.flat
  | .slice _ | .ref => false
  | _ => true
def Sh.flats : List Sh → Bool
  | [] => true
  | s :: ss => s.flat && Sh.flats ss
end

/-- The zero value of a field. -/
def zf : Sh → HV
  | .slice _ => .cst (.slice none 0 0)
  | s => .dat s (D0 s)

/-- The zero value: what has slices in it is taken apart, so that they are known to be nil. -/
def H0 (z : Option Value) : Sh → HV
  | .slice _ => .cst (.slice none 0 0)
  | .struct ss => match Sh.flats ss with
    | true => .dat (.struct ss) (D0 (.struct ss))
    | false => .st ss (ss.map zf)
  | .ref => match z with
    | some v => .cst v
    | none => .und
  | s => .dat s (D0 s)

mutual
def zcells : Sh → List Value
  | .int k => [.int k 0]
  | .bool => [.bool false]
  | .str => [.string ByteArray.empty]
  | .struct fs => zcellss fs
  | .arr n s => (List.replicate n (zcells s)).flatten
  | .slice _ => [.slice none 0 0]
  | .ref => []
def zcellss : List Sh → List Value
  | [] => []
  | s :: ss => zcells s ++ zcellss ss
end

mutual
def Sh.data : Sh → Bool
  | .struct fs => Sh.datas fs
  | .arr _ s => s.data
  | .slice s => s.data
  | .ref => false
  | _ => true
def Sh.datas : List Sh → Bool
  | [] => true
  | s :: ss => s.data && Sh.datas ss
end

theorem kind_zero (k : IntKind) : k.min ≤ 0 ∧ 0 ≤ k.max := by cases k <;> decide

theorem flatten_chunk (n j : Nat) (l : List Value) (h : j < n) : chunk (List.replicate n l).flatten (j * l.length) l.length = l := by
  induction n generalizing j with
  | zero => omega
  | succ n ih =>
    rw [List.replicate_succ, List.flatten_cons]
    cases j with
    | zero => simp [chunk]
    | succ j =>
      have := ih j (by omega)
      rw [chunk] at this ⊢
      rw [Nat.add_mul, Nat.one_mul, Nat.add_comm (j * l.length), List.drop_length_add_append]
      exact this

theorem D0s_nth : ∀ (ss : List Sh) (i : Nat), (D0s ss).getD i .Z = match ss[i]? with | some s => D0 s | none => .Z
  | [], i => by simp [D0s]
  | s :: ss, 0 => by simp [D0s]
  | s :: ss, i + 1 => by simp only [D0s, List.getD_cons_succ, List.getElem?_cons_succ]; exact D0s_nth ss i

mutual
theorem Rel.zero (g : Ghost) : ∀ (s : Sh), s.data = true → Rel g s (D0 s) (zcells s)
  | .int k, _ => by simp only [Rel, D0, zcells, D.int]; exact ⟨trivial, kind_zero k⟩
  | .bool, _ => by simp only [Rel, D0, zcells, D.bool]
  | .str, _ => by simp only [Rel, D0, zcells, D.str]
  | .struct ss, h => by
    simp only [Sh.data] at h
    simp only [Rel, D0, zcells]
    refine Rels.zero g ss h 0 _ fun j hj => ?_
    simp only [D.nth, Nat.zero_add]
    rw [D0s_nth]
    rw [List.getElem?_eq_getElem hj]
  | .arr n s, h => by
    simp only [Sh.data] at h
    have ih := Rel.zero g s h
    simp only [Rel, D0, zcells, D.nth]
    have hl := ih.length
    refine ⟨by simp [hl], fun j hj => ?_⟩
    rw [← hl, flatten_chunk _ _ _ hj]; exact ih
  | .slice s, _ => by simp only [Rel, D0, zcells, D.list]; exact ⟨none, 0, rfl, trivial, rfl⟩
  | .ref, h => by simp [Sh.data] at h
theorem Rels.zero (g : Ghost) : ∀ (ss : List Sh), Sh.datas ss = true → ∀ (i : Nat) (d : D), (∀ j (h : j < ss.length), d.nth (i + j) = D0 ss[j]) → Rels g ss i d (zcellss ss)
  | [], _, _, _, _ => by simp only [Rels, zcellss]
  | s :: ss, h, i, d, hd => by
    simp only [Sh.datas, Bool.and_eq_true] at h
    have ih := Rel.zero g s h.1
    have hl := ih.length
    simp only [Rels, zcellss]
    have e0 : d.nth i = D0 s := hd 0 (by simp)
    refine ⟨by simp; omega, ?_, ?_⟩
    · rw [e0, List.take_left' hl]; exact ih
    · rw [List.drop_left' hl]
      refine Rels.zero g ss h.2 (i + 1) d fun j hj => ?_
      have := hd (j + 1) (by simp; omega)
      simp only [List.getElem_cons_succ] at this
      rw [← this]; congr 1; omega
end

theorem HCs.zeroSt (g : Ghost) (loc : Loc) : ∀ (ss : List Sh), Sh.datas ss = true → HCs g loc ss (ss.map zf) (zcellss ss)
  | [], _ => by simp only [List.map_nil, HCs, zcellss]
  | s :: ss, h => by
    simp only [Sh.datas, Bool.and_eq_true] at h
    have ih := Rel.zero g s h.1
    have hl := ih.length
    simp only [List.map_cons, HCs, zcellss]
    refine ⟨by simp; omega, ?_, ?_⟩
    · rw [List.take_left' hl]
      cases s <;> simp only [zf, HC] <;> first | exact ih | exact ⟨rfl, rfl⟩
    · rw [List.drop_left' hl]; exact HCs.zeroSt g loc ss h.2

theorem fitss_zeroSt : ∀ (ss : List Sh), fitss ss (ss.map zf) = true
  | [] => by simp [fitss]
  | s :: ss => by
    simp only [List.map_cons, fitss, fitss_zeroSt ss, Bool.and_true]
    cases s <;> simp [zf, fits, Sh.beq, Sh.beq_refl, Sh.beqs_refl, Sh.size, Sh.agg]

/-- The zero value of a shape of data. -/
theorem HC.zero (g : Ghost) (loc : Loc) (z : Option Value) (s : Sh) (h : s.data = true) : HC g loc (H0 z s) (zcells s) ∧ fits s (H0 z s) = true := by
  cases s with
  | struct ss =>
    simp only [H0]
    split
    · simp only [HC, fits, Sh.beq_refl]; exact ⟨Rel.zero g _ h, trivial⟩
    · simp only [HC, fits, Sh.beqs_refl, fitss_zeroSt, Bool.and_true]
      exact ⟨HCs.zeroSt g loc ss (by simpa [Sh.data] using h), trivial⟩
  | slice s => simp [H0, HC, zcells, fits, Sh.size, Sh.agg, Value.oneCell']
  | ref => simp [Sh.data] at h
  | _ => simp only [H0, HC, fits, Sh.beq_refl]; exact ⟨Rel.zero g _ h, trivial⟩
end Go.Vm
