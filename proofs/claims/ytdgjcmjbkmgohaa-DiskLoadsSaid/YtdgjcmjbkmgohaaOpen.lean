/- What comes in, opened: bytes; rows. -/
import Derived.Test.YtdgjcmjbkmgohaaBytes
import Derived.Deep.Slices
import Derived.OpenShut
namespace Go.Proofs.Ytdgjcmjbkmgohaa
open Go.RowKit Go.Sl Go.Deep

section
variable {H : Type} {enc : TypeId × Value → H} {w : World} {base : Nat} {spare : Nat → Bool} {held : Bool} {fuel : Nat}

/-- Bytes that came in. -/
theorem open_bytes {v : Value} {x : DataW H × List MemPlace} (h : DataW.trod enc Try.prog w base spare held fuel 39 [v] = some x) : ∃ l, BytesAt w v l := by
  rcases open_slice1 (P := Try.prog) Try.underlying39 (by kernel_rfl) h with ⟨h0, _⟩ | ⟨a, len, cap, m, n, V, D, Pl, h0, _, hl, hm, hmm, _, hV⟩
  · injection h0 with h0; subst h0
    exact ⟨[], .inl ⟨rfl, rfl, rfl⟩⟩
  · injection h0 with h0; subst h0
    have hlm : len ≤ m := by rw [hmm]; split <;> omega
    have hval : ∀ i, i < len → ∃ b : UInt8, V i = .int .u8 b.toNat := by
      intro i hi
      obtain ⟨_, ht⟩ := hV i (by omega)
      obtain ⟨q, hq, _, hwf⟩ := DataW.trod_int Try.underlying5 ht
      have hb : 0 ≤ q ∧ q ≤ 255 := by simpa [Lit.wf, IntKind.min, IntKind.max, IntKind.signed, IntKind.bits] using hwf
      refine ⟨UInt8.ofNat q.toNat, ?_⟩
      injection hq with hq
      rw [hq]
      have : ((UInt8.ofNat q.toNat).toNat : Int) = q := by simp; omega
      rw [this]
    obtain ⟨f, hf⟩ := choose_lt hval
    refine ⟨(List.range len).map f, .inr ⟨a, cap, by simp, by simpa using hl, hm, fun j u hu => ?_⟩⟩
    simp only [bs, List.map_map, List.getElem?_map, Option.map_eq_some_iff] at hu
    obtain ⟨i, hi, rfl⟩ := hu
    obtain ⟨hj, rfl⟩ : j < len ∧ j = i := by
      rcases Nat.lt_or_ge j len with hj | hj
      · rw [List.getElem?_range hj] at hi; exact ⟨hj, Option.some.inj hi⟩
      · rw [List.getElem?_eq_none (by simpa using hj)] at hi; cases hi
    rw [(hV j (by omega)).1, hf j hj]
    rfl
end
end Go.Proofs.Ytdgjcmjbkmgohaa
