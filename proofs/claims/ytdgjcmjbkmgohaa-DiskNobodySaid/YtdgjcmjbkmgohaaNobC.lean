/- An act that came in, opened. -/
import Derived.Test.YtdgjcmjbkmgohaaNobB
import Derived.Test.YtdgjcmjbkmgohaaRowP
namespace Go.Proofs.Ytdgjcmjbkmgohaa
open Go.ChangeShapes Go.WideShapes Go.ChangeAt Go.RowKit Go.Sl Go.Deep

section
variable {H : Type} {enc : TypeId × Value → H} {w : World} {base : Nat} {spare : Nat → Bool} {held : Bool} {fuel : Nat}
set_option maxRecDepth 100000 in
theorem open_act {cs : List Value} {x : DataW H × List MemPlace} (h : DataW.trod enc Try.prog w base spare held fuel 63 cs = some x) :
    ∃ (k n : Int) (s t : List UInt8) (fa ca : Option Addr) (fn fc cn cc : Nat), cs = [.int .u8 k, .string ⟨s.toArray⟩, .string ⟨t.toArray⟩, .slice fa fn fc, .int .i64 n, .slice ca cn cc] := by
  obtain ⟨xs, n', _, _, hlen, hxs, hf⟩ := DataW.trod_struct Try.underlying63 h
  have hc : Try.prog.cellsOf 63 = 6 := by kernel_rfl
  have hc1 : Try.prog.cellsOf 5 = 1 := by kernel_rfl
  have hc2 : Try.prog.cellsOf 3 = 1 := by kernel_rfl
  have hc3 : Try.prog.cellsOf 39 = 1 := by kernel_rfl
  have hc4 : Try.prog.cellsOf 9 = 1 := by kernel_rfl
  have hc5 : Try.prog.cellsOf 22 = 1 := by kernel_rfl
  rw [hc] at hlen
  match cs, hlen with
  | [v0, v1, v2, v3, v4, v5], _ =>
    have f0 := hf 0 _ rfl
    have f1 := hf 1 _ rfl
    have f2 := hf 2 _ rfl
    have f3 := hf 3 _ rfl
    have f4 := hf 4 _ rfl
    have f5 := hf 5 _ rfl
    simp [hc1, hc2, hc3, hc4, hc5] at f0 f1 f2 f3 f4 f5
    have some_of : ∀ i, i < 6 → ∃ y, xs[i]? = some y := fun i hi => ⟨xs[i]'(by rw [hxs]; exact hi), List.getElem?_eq_getElem _⟩
    obtain ⟨y0, e0⟩ := some_of 0 (by omega)
    obtain ⟨y1, e1⟩ := some_of 1 (by omega)
    obtain ⟨y2, e2⟩ := some_of 2 (by omega)
    obtain ⟨y3, e3⟩ := some_of 3 (by omega)
    obtain ⟨y4, e4⟩ := some_of 4 (by omega)
    obtain ⟨y5, e5⟩ := some_of 5 (by omega)
    rw [e0] at f0; rw [e1] at f1; rw [e2] at f2; rw [e3] at f3; rw [e4] at f4; rw [e5] at f5
    obtain ⟨q0, g0, _, _⟩ := DataW.trod_int Try.underlying5 f0
    obtain ⟨s1, g1, _, _⟩ := DataW.trod_string Try.underlying9 f1
    obtain ⟨s2, g2, _, _⟩ := DataW.trod_string Try.underlying9 f2
    obtain ⟨l3, h3⟩ := open_bytes f3
    obtain ⟨q4, g4, _, _⟩ := DataW.trod_int Try.underlying3 f4
    obtain ⟨l5, h5, _⟩ := open_ints f5
    obtain ⟨fa, fc, hfv⟩ := shape_at h3
    obtain ⟨ca, cc, hcv⟩ := IntsAt.shape h5
    simp only [List.cons.injEq, and_true] at g0 g1 g2 g4
    refine ⟨q0, q4, s1.data.toList, s2.data.toList, fa, ca, l3.length, fc, l5.length, cc, ?_⟩
    rw [g0, g1, g2, g4, hfv, hcv]
end
end Go.Proofs.Ytdgjcmjbkmgohaa
