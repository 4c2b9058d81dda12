/- Files that came in, opened. -/
import Derived.Test.YtdgjcmjbkmgohaaFilesP
import Derived.Test.YtdgjcmjbkmgohaaOpen
namespace Go.Proofs.Ytdgjcmjbkmgohaa
open Go.ChangeShapes Go.WideShapes Go.ChangeAt Go.RowKit Go.Sl Go.Deep

section
variable {H : Type} {enc : TypeId × Value → H} {w : World} {base : Nat} {spare : Nat → Bool} {held : Bool} {fuel : Nat}
instance : Inhabited FV := ⟨⟨[], .slice none 0 0, [], 0⟩⟩

theorem fcells_at (xs : List FV) (k : Nat) (x : FV) (h : xs[k]? = some x) (j : Nat) (hj : j < 3) : (fcells xs)[k * 3 + j]? = x.cells[j]? := by
  obtain ⟨h1, h2, h3⟩ := fcells_get xs k x h
  match j, hj with
  | 0, _ => exact h1
  | 1, _ => exact h2
  | 2, _ => exact h3

set_option maxRecDepth 100000 in
theorem open_file {cs : List Value} {x : DataW H × List MemPlace} (h : DataW.trod enc Try.prog w base spare held fuel 54 cs = some x) :
    ∃ f : FV, cs = f.cells ∧ BytesAt w f.dv f.data ∧ f.name.length ≤ 9223372036854775807 ∧ f.data.length ≤ 9223372036854775807 := by
  obtain ⟨xs, n', _, _, hlen, hxs, hf⟩ := DataW.trod_struct Try.underlying54 h
  have hc : Try.prog.cellsOf 54 = 3 := by kernel_rfl
  have hc2 : Try.prog.cellsOf 3 = 1 := by kernel_rfl
  have hc3 : Try.prog.cellsOf 39 = 1 := by kernel_rfl
  have hc4 : Try.prog.cellsOf 9 = 1 := by kernel_rfl
  rw [hc] at hlen
  match cs, hlen with
  | [v0, v1, v2], _ =>
    have f0 := hf 0 _ rfl
    have f1 := hf 1 _ rfl
    have f2 := hf 2 _ rfl
    simp [hc2, hc3, hc4] at f0 f1 f2
    have some_of : ∀ i, i < 3 → ∃ y, xs[i]? = some y := fun i hi => ⟨xs[i]'(by rw [hxs]; exact hi), List.getElem?_eq_getElem _⟩
    obtain ⟨y0, e0⟩ := some_of 0 (by omega)
    obtain ⟨y1, e1⟩ := some_of 1 (by omega)
    obtain ⟨y2, e2⟩ := some_of 2 (by omega)
    rw [e0] at f0; rw [e1] at f1; rw [e2] at f2
    obtain ⟨s0, g0, _, k0⟩ := DataW.trod_string Try.underlying9 f0
    obtain ⟨l1, h1⟩ := open_bytes f1
    obtain ⟨q2, g2, _, _⟩ := DataW.trod_int Try.underlying3 f2
    simp only [List.cons.injEq, and_true] at g0 g2
    refine ⟨⟨s0.data.toList, v1, l1, q2⟩, by simp only [FV.cells, kv]; rw [g0, g2], h1, ?_, ?_⟩
    · have e : s0.data.toList.length = s0.size := Array.length_toList
      have k1 : s0.size ≤ 9223372036854775807 := k0
      exact e ▸ k1
    · rcases h1 with ⟨_, e, _⟩ | ⟨a, cap, _, e1, e2, _⟩
      · have : l1.length ≤ 9223372036854775807 := by omega
        exact this
      · have k1 : cap ≤ 9223372036854775807 := e2
        have : l1.length ≤ 9223372036854775807 := by omega
        exact this

theorem open_files {v : Value} {x : DataW H × List MemPlace} (h : DataW.trod enc Try.prog w base spare held fuel 52 [v] = some x) :
    ∃ xs, FilesAt w v xs ∧ DataAt w xs ∧ ∀ x ∈ xs, x.name.length ≤ 9223372036854775807 ∧ x.data.length ≤ 9223372036854775807 := by
  have hc : Try.prog.cellsOf 54 = 3 := by kernel_rfl
  rcases open_slice Try.underlying52 h with ⟨h0, _⟩ | ⟨a, len, cap, m, n, D, Pl, h0, hb, hl, hm, hmm, _, hx⟩
  · injection h0 with h0
    subst h0
    exact ⟨[], .inl ⟨rfl, rfl, rfl⟩, fun x hx => (List.not_mem_nil hx).elim, fun x hx => (List.not_mem_nil hx).elim⟩
  · injection h0 with h0
    subst h0
    have hlm : len ≤ m := by rw [hmm]; split <;> omega
    rw [hc] at hx
    have each : ∀ i, i < len → ∃ f : FV, (∀ (j : Nat) (u : Value), f.cells[j]? = some u → w.cell? (a.add (i * 3 + j)) = some u) ∧ BytesAt w f.dv f.data ∧ f.name.length ≤ 9223372036854775807 ∧ f.data.length ≤ 9223372036854775807 := by
      intro i hi
      obtain ⟨cs', h1, h2⟩ := hx i (by omega)
      obtain ⟨f, rfl, h3, h4, h5⟩ := open_file h2
      obtain ⟨_, hlen, hcell⟩ := World.cells?_some h1
      refine ⟨f, fun j u hu => ?_, h3, h4, h5⟩
      have hj : j < 3 := by
        have := (List.getElem?_eq_some_iff.1 hu).1
        simpa [FV.cells] using this
      have := hcell j hj
      rw [add_add] at this
      rw [this]
      exact hu
    obtain ⟨q, hq⟩ := choose_lt each
    have hlen : ((List.range len).map q).length = len := by simp
    have hget : ∀ (k : Nat) (f : FV), ((List.range len).map q)[k]? = some f → k < len ∧ f = q k := by
      intro k f hk
      have h1 := (List.getElem?_eq_some_iff.1 hk).1
      rw [hlen] at h1
      rw [List.getElem?_map, List.getElem?_range h1] at hk
      exact ⟨h1, (Option.some.inj hk).symm⟩
    refine ⟨(List.range len).map q, .inr ⟨a, cap, by rw [hlen], by rw [hlen]; exact hl, hm, fun j u hu => ?_⟩, fun x hx' => ?_, fun x hx' => ?_⟩
    · have hj : j < len * 3 := by
        have := (List.getElem?_eq_some_iff.1 hu).1
        rwa [fcells_length, hlen] at this
      have hk : j / 3 < len := by omega
      have := fcells_at ((List.range len).map q) (j / 3) (q (j / 3)) (by rw [List.getElem?_map, List.getElem?_range hk]; rfl) (j % 3) (by omega)
      rw [show j / 3 * 3 + j % 3 = j by omega] at this
      rw [this] at hu
      have := (hq (j / 3) hk).1 (j % 3) u hu
      rwa [show j / 3 * 3 + j % 3 = j by omega] at this
    · obtain ⟨i, hi, rfl⟩ := List.mem_map.1 hx'
      exact (hq i (List.mem_range.1 hi)).2.1
    · obtain ⟨i, hi, rfl⟩ := List.mem_map.1 hx'
      exact (hq i (List.mem_range.1 hi)).2.2
end
end Go.Proofs.Ytdgjcmjbkmgohaa
