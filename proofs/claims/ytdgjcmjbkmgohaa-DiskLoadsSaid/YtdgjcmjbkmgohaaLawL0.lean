/- Load, of both sides, from a state in which both are the same; the input's guard. -/
import Derived.Test.YtdgjcmjbkmgohaaFilesE
import Derived.Test.YtdgjcmjbkmgohaaLawB
namespace Go.Proofs.Ytdgjcmjbkmgohaa
open Go.RowKit Go.Sl

def loadE (xs : List FV) : Int := if (loadR xs).isSome then 0 else 1
def outOf (xs out0 : List FV) : List FV := (loadR xs).getD out0

/-- The program's files and the document's: the same. -/
structure Both (b : Nat) (pv : Option Addr) (fs : List (List UInt8 × FileR)) (out : List FV) (lv : Value) (L N : Frag) : Prop where
  disk : DiskF b pv fs L
  row : FRowF lv out N
  twin : Twin fs out
  fine : Fine fs
  len : out.length ≤ 64
  one : ∀ x ∈ out, x.dv.oneCell' = true

theorem load_both (b : Nat) (pv : Option Addr) (fs : List (List UInt8 × FileR)) (out : List FV) (lv v : Value) (L N F : Frag) (xs : List FV) (w : World) (hB : Both b pv fs out lv L N) (hL : Holds w (L ++ F)) (hv : ∀ w', Holds w' F → FilesAt w' v xs ∧ DataAt w' xs) (hn : xs.length ≤ 4096) (hb : ∀ x ∈ xs, x.name.length ≤ 140737488355328 ∧ x.data.length ≤ 140737488355328) :
    Calls Try.prog 26 #[.pointer (some ⟨b, 0, none⟩), v] w fun e w' => ∃ fs' L', e = .returned (.int .i64 (loadE xs)) ∧ (DiskF b pv fs' L' ∧ Twin fs' (outOf xs out) ∧ Fine fs') ∧ Moves w w' L L' := by
  refine (load_any b pv fs L F v xs w hB.disk hL hv hn hb).mono ?_
  rintro e w' (⟨h1, h2, h3⟩ | ⟨out', fs', L', h1, h2, h3, h4, h5, h6⟩)
  · refine ⟨fs, L, by rw [h2, loadE, h1]; rfl, ⟨hB.disk, ?_, hB.fine⟩, h3.frame L⟩
    rw [outOf, h1]; exact hB.twin
  · refine ⟨fs', L', by rw [h2, loadE, h1]; rfl, ⟨h3, ?_, h5⟩, h6⟩
    rw [outOf, h1]; exact h4
theorem rload_both (X : Nat) (p : Option Addr) (b : Nat) (pv : Option Addr) (fs : List (List UInt8 × FileR)) (out : List FV) (lv v : Value) (L N F : Frag) (xs : List FV) (w : World) (hB : Both b pv fs out lv L N) (hL : Holds w ((X, rdisk p lv) :: F)) (hv : ∀ w', Holds w' F → FilesAt w' v xs ∧ DataAt w' xs) (hn : xs.length ≤ 4096) (hb : ∀ x ∈ xs, x.name.length ≤ 140737488355328 ∧ x.data.length ≤ 140737488355328) :
    Calls Try.prog 27 #[.pointer (some ⟨X, 0, none⟩), v] w fun e w' => ∃ lv' N', e = .returned (.int .i64 (loadE xs)) ∧ FRowF lv' (outOf xs out) N' ∧ Moves w w' ((X, rdisk p lv) :: N) ((X, rdisk p lv') :: N') := by
  refine (rload_any X p lv v xs F w hL hv hn hb).mono ?_
  rintro e w' (⟨h1, h2, h3⟩ | ⟨out', v', N', h1, h2, h3, h4⟩)
  · refine ⟨lv, N, by rw [h2, loadE, h1]; rfl, ?_, h3.frame _⟩
    rw [outOf, h1]; exact hB.row
  · refine ⟨v', N', by rw [h2, loadE, h1]; rfl, ?_, ((h4.frame N).reR (M' := N ++ ((X, rdisk p v') :: N')) fun f g h0 hc ha => by simp only [h0, hc, ha]; omega).drop⟩
    rw [outOf, h1]; exact h3

theorem outOf_some {xs out0 : List FV} : outOf xs out0 = out0 ∨ (outOf xs out0 = xs.foldl putR [] ∧ xs.length ≤ 64 ∧ xs.all okFile = true) := by
  unfold outOf loadR
  split
  · rename_i h
    right
    simp only [Bool.and_eq_true, Bool.not_eq_true', Bool.or_eq_false_iff, decide_eq_false_iff_not] at h
    exact ⟨rfl, by omega, h.1⟩
  · exact .inl rfl
theorem outOf_len {xs out0 : List FV} (h : out0.length ≤ 64) : (outOf xs out0).length ≤ 64 := by
  rcases outOf_some (xs := xs) (out0 := out0) with e | ⟨e, e2, _⟩
  · rw [e]; exact h
  · rw [e]; have := fold_length xs []; simp at this; omega
theorem outOf_mem {xs out0 : List FV} {x : FV} (h : x ∈ outOf xs out0) : x ∈ out0 ∨ (x ∈ xs ∧ okFile x = true) := by
  rcases outOf_some (xs := xs) (out0 := out0) with e | ⟨e, _, e3⟩
  · rw [e] at h; exact .inl h
  · rw [e] at h
    rcases fold_mem xs [] x h with h | h
    · cases h
    · exact .inr ⟨h, (List.all_eq_true.1 e3) x h⟩

/-- A rising list is laid as it is. -/
theorem putR_last {l : List FV} {x : FV} (h : Rises (l ++ [x])) : putR l x = l ++ [x] := by
  unfold putR
  induction l with
  | nil => simp [putGo]
  | cons y r ih =>
    have h1 := List.pairwise_cons.1 h
    have hlt : y.name < x.name := h1.1 x (List.mem_append_right _ (List.mem_singleton.2 rfl))
    have hl : leB x.name y.name = false := by
      rw [← Bool.not_eq_true, leB_iff]
      exact List.not_le.2 hlt
    have hn : (y.name != x.name) = true := by
      rw [bne_iff_ne]; intro e; rw [e] at hlt; exact List.lt_irrefl _ hlt
    have := ih h1.2
    simp [putGo, hl, hn, this]
theorem foldl_rises {l : List FV} (h : Rises l) : ∀ (k : Nat), (l.take k).foldl putR [] = l.take k := by
  intro k
  induction k with
  | zero => rfl
  | succ k ih =>
    rcases Nat.lt_or_ge k l.length with hk | hk
    · rw [take_foldl_succ (List.getElem?_eq_getElem hk), ih]
      have e : l.take (k + 1) = l.take k ++ [l[k]] := by rw [List.take_add_one, List.getElem?_eq_getElem hk]; rfl
      rw [e]
      refine putR_last ?_
      rw [← e]
      exact List.Pairwise.sublist (List.take_sublist ..) h
    · have e1 : l.take (k + 1) = l := List.take_of_length_le (by omega)
      have e2 : l.take k = l := List.take_of_length_le hk
      rw [e1, ← e2, ih, e2]
theorem loadR_rises {l : List FV} (h : Rises l) (hok : ∀ x ∈ l, okFile x = true) (hlen : l.length ≤ 64) : loadR l = some l := by
  have hf : l.foldl putR [] = l := by have := foldl_rises h l.length; rwa [List.take_length] at this
  have ha : l.all okFile = true := List.all_eq_true.2 hok
  unfold loadR
  rw [hf, ha]
  have : decide (64 < l.length) = false := by simp; omega
  simp [this]
/-- What is the same file by file. -/
theorem rises_congr {l m : List FV} (h : Rises l) (e : m.map FV.file = l.map FV.file) : Rises m := by
  have e2 : m.map FV.name = l.map FV.name := by
    have := congrArg (List.map Prod.fst) e
    simpa [List.map_map, Function.comp_def, FV.file] using this
  have h1 : (l.map FV.name).Pairwise (· < ·) := List.pairwise_map.2 h
  rw [← e2] at h1
  exact List.pairwise_map.1 h1
theorem ok_congr {l m : List FV} (h : ∀ x ∈ l, okFile x = true) (e : m.map FV.file = l.map FV.file) : ∀ x ∈ m, okFile x = true := by
  intro x hx
  have : x.file ∈ l.map FV.file := by rw [← e]; exact List.mem_map_of_mem hx
  obtain ⟨y, hy, he⟩ := List.mem_map.1 this
  have h1 := h y hy
  simp only [FV.file, Prod.mk.injEq] at he
  obtain ⟨e1, e2, e3⟩ := he
  simp only [okFile] at h1 ⊢
  rw [← e1, ← e2, ← e3]; exact h1

/-- At the head of a round of the guard. -/
def GuardInv (w : World) (all : List FV) (i : Value) (wr : World) : Prop :=
  ∃ k : Nat, k ≤ all.length ∧ i = .int .i64 k ∧ (∀ x ∈ all.take k, x.name.length ≤ 60 ∧ x.data.length ≤ 200) ∧ Moves w wr [] []
end Go.Proofs.Ytdgjcmjbkmgohaa
