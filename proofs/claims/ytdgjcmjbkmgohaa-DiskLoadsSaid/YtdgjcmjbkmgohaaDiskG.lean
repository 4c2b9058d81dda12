/- Crash. -/
import Derived.Test.YtdgjcmjbkmgohaaDiskF
namespace Go.Proofs.Ytdgjcmjbkmgohaa
open Go.RowKit Go.Sl

/-- How many of a file's loose bytes a crash leaves. -/
def cutN (cuts : List Int) (i : Nat) (f : FileR) : Nat := ((cuts[i]?).map fun c => (c % 18446744073709551616).toNat % (f.data.length - f.kept + 1)).getD 0
def cutFile (cuts : List Int) (i : Nat) (f : FileR) : FileR := ⟨f.data.take (f.kept + cutN cuts i f), f.kept + cutN cuts i f⟩
/-- Files behind k rounds of a crash. -/
def crashTo (cuts : List Int) (ns : List (List UInt8)) (fs : List (List UInt8 × FileR)) : Nat → List (List UInt8 × FileR)
  | 0 => fs
  | k + 1 => match ns[k]? with
    | some n => match lookF (crashTo cuts ns fs k) n with
      | some f => putF (crashTo cuts ns fs k) n (cutFile cuts k f)
      | none => crashTo cuts ns fs k
    | none => crashTo cuts ns fs k

/-- A file whose lasting bytes are there. -/
def OkF (f : FileR) : Prop := f.kept ≤ f.data.length ∧ f.data.length ≤ 140737488355328
def AllOk (fs : List (List UInt8 × FileR)) : Prop := ∀ q ∈ fs, OkF q.2

theorem cutN_le (cuts : List Int) (i : Nat) (f : FileR) (h : f.kept ≤ f.data.length) : f.kept + cutN cuts i f ≤ f.data.length := by
  unfold cutN
  cases cuts[i]? with
  | none => simpa using h
  | some c =>
    have := Nat.mod_lt (c % 18446744073709551616).toNat (show 0 < f.data.length - f.kept + 1 by omega)
    simp only [Option.map_some, Option.getD_some]
    omega
theorem lookF_mem {fs : List (List UInt8 × FileR)} {k : List UInt8} {f : FileR} (h : lookF fs k = some f) : (k, f) ∈ fs := by
  unfold lookF at h
  obtain ⟨p, hp, rfl⟩ := Option.map_eq_some_iff.1 h
  have h1 := List.find?_some hp
  have h2 := List.mem_of_find?_eq_some hp
  have : p.1 = k := by simpa using h1
  subst this
  exact h2
theorem lookF_some {fs : List (List UInt8 × FileR)} {k : List UInt8} (h : k ∈ fs.map Prod.fst) : ∃ f, lookF fs k = some f := by
  obtain ⟨p, hp, rfl⟩ := List.mem_map.1 h
  unfold lookF
  cases hf : fs.find? (fun q => q.1 == p.1) with
  | some q => exact ⟨_, rfl⟩
  | none => have := List.find?_eq_none.1 hf p hp; simp at this
theorem putF_mem {fs : List (List UInt8 × FileR)} {k : List UInt8} {f : FileR} : ∀ q ∈ putF fs k f, q = (k, f) ∨ q ∈ fs := by
  induction fs with
  | nil => intro q hq; exact .inl (by simpa [putF] using hq)
  | cons p r ih =>
    intro q hq
    unfold putF at hq
    split at hq
    · rcases List.mem_cons.1 hq with rfl | hq
      · exact .inl rfl
      · exact .inr (List.mem_cons_of_mem _ hq)
    · rcases List.mem_cons.1 hq with rfl | hq
      · exact .inr (List.mem_cons_self ..)
      · rcases ih q hq with h | h
        · exact .inl h
        · exact .inr (List.mem_cons_of_mem _ h)
theorem putF_keys {fs : List (List UInt8 × FileR)} {k : List UInt8} {f : FileR} (h : k ∈ fs.map Prod.fst) : (putF fs k f).map Prod.fst = fs.map Prod.fst := by
  induction fs with
  | nil => cases h
  | cons p r ih =>
    unfold putF
    split
    · rename_i hk
      have : p.1 = k := by simpa using hk
      simp [this]
    · rename_i hk
      have : k ∈ r.map Prod.fst := by
        rcases List.mem_cons.1 h with h | h
        · exact absurd (by simp [h]) hk
        · exact h
      simp [ih this]
theorem cutFile_ok {cuts : List Int} {i : Nat} {f : FileR} (h : OkF f) : OkF (cutFile cuts i f) := by
  have := cutN_le cuts i f h.1
  refine ⟨?_, ?_⟩
  · simp only [cutFile, List.length_take]; omega
  · simp only [cutFile, List.length_take]; have := h.2; omega
theorem crashTo_keys (cuts : List Int) (ns : List (List UInt8)) (fs : List (List UInt8 × FileR)) (k : Nat) : (crashTo cuts ns fs k).map Prod.fst = fs.map Prod.fst := by
  induction k with
  | zero => rfl
  | succ k ih =>
    unfold crashTo
    split
    · split
      · rename_i n _ f hf
        rw [putF_keys (List.mem_map.2 ⟨_, lookF_mem hf, rfl⟩), ih]
      · exact ih
    · exact ih
theorem crashTo_ok {cuts : List Int} {ns : List (List UInt8)} {fs : List (List UInt8 × FileR)} (h : AllOk fs) (k : Nat) : AllOk (crashTo cuts ns fs k) := by
  induction k with
  | zero => exact h
  | succ k ih =>
    unfold crashTo
    split
    · split
      · rename_i n _ f hf
        intro q hq
        rcases putF_mem q hq with rfl | hq
        · exact cutFile_ok (ih _ (lookF_mem hf))
        · exact ih q hq
      · exact ih
    · exact ih
theorem crashTo_succ {cuts : List Int} {ns : List (List UInt8)} {fs : List (List UInt8 × FileR)} {k : Nat} {n : List UInt8} {f : FileR} (h1 : ns[k]? = some n) (h2 : lookF (crashTo cuts ns fs k) n = some f) :
    crashTo cuts ns fs (k + 1) = putF (crashTo cuts ns fs k) n (cutFile cuts k f) := by
  rw [crashTo, h1]; simp only [h2]
theorem namesOf_perm (fs : List (List UInt8 × FileR)) : (namesOf fs).Perm (fs.map Prod.fst) := List.mergeSort_perm _ _
theorem namesOf_length (fs : List (List UInt8 × FileR)) : (namesOf fs).length = fs.length := by simpa using (namesOf_perm fs).length_eq

/-- The first bytes of a file, in its own row. -/
theorem bytesF_take {da : Option Addr} {dc : Nat} {l : List UInt8} {L : Frag} (h : BytesF (.slice da l.length dc) l L) (n : Nat) (hn : n ≤ l.length) : BytesF (.slice da n n) (l.take n) L ∧ (da = none ∧ dc = 0 ∧ l = [] ∧ n = 0 ∨ ∃ g, da = some ⟨g, 0, none⟩ ∧ n ≤ dc) := by
  obtain ⟨h1, ⟨h2, h3, h4⟩ | ⟨g, cap, cur, h2, h3, h4, h5, h6, h7⟩⟩ := h
  · injection h2 with e1 e2 e3
    have hl : l = [] := List.eq_nil_of_length_eq_zero e2
    subst hl
    have : n = 0 := by simpa using hn
    subst this
    subst e1
    exact ⟨⟨by simp [bs], .inl ⟨rfl, rfl, h4⟩⟩, .inl ⟨rfl, e3, rfl, rfl⟩⟩
  · injection h2 with e1 e2 e3
    subst e1 e3
    refine ⟨?_, .inr ⟨g, rfl, by omega⟩⟩
    have hlen : (l.take n).length = n := by rw [List.length_take]; omega
    show RowF _ 1 _ _ _ _
    rw [hlen]
    refine ⟨by rw [bs_length, hlen]; omega, .inr ⟨g, n, cur, rfl, h3, Nat.le_refl _, by omega, by omega, ?_⟩⟩
    have : bs (l.take n) = (bs l).take n := by simp [bs, List.map_take]
    rw [this, ← h7, List.take_take]
    congr 1
    omega

end Go.Proofs.Ytdgjcmjbkmgohaa
