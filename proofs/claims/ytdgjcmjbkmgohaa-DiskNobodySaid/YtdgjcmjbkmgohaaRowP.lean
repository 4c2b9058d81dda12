/- DiskPower: whatever comes in, the call returns true, and what came in reads as it did. No condition. -/
import Derived.Test.YtdgjcmjbkmgohaaLawB
import Derived.Test.YtdgjcmjbkmgohaaOpen
import Derived.Test.YtdgjcmjbkmgohaaPost
namespace Go.Proofs.Ytdgjcmjbkmgohaa
open Go.ChangeShapes Go.WideShapes Go.ChangeAt Go.RowKit Go.Sl Go.Deep

section
variable {H : Type} {enc : TypeId × Value → H} {w : World} {base : Nat} {spare : Nat → Bool} {held : Bool} {fuel : Nat}
/-- Integers that came in. -/
theorem open_ints {v : Value} {x : DataW H × List MemPlace} (h : DataW.trod enc Try.prog w base spare held fuel 22 [v] = some x) : ∃ l : List Int, IntsAt w v l ∧ ∀ c ∈ l, -9223372036854775808 ≤ c ∧ c ≤ 9223372036854775807 := by
  rcases open_slice1 (P := Try.prog) Try.underlying22 (by kernel_rfl) h with ⟨h0, _⟩ | ⟨a, len, cap, m, n, V, D, Pl, h0, _, hl, hm, hmm, _, hV⟩
  · injection h0 with h0; subst h0
    exact ⟨[], .inl ⟨rfl, rfl, rfl⟩, by simp⟩
  · injection h0 with h0; subst h0
    have hlm : len ≤ m := by rw [hmm]; split <;> omega
    have hval : ∀ i, i < len → ∃ c : Int, V i = .int .i64 c ∧ -9223372036854775808 ≤ c ∧ c ≤ 9223372036854775807 := by
      intro i hi
      obtain ⟨_, ht⟩ := hV i (by omega)
      obtain ⟨q, hq, _, hwf⟩ := DataW.trod_int Try.underlying3 ht
      have hb : -9223372036854775808 ≤ q ∧ q ≤ 9223372036854775807 := by simpa [Lit.wf, IntKind.min, IntKind.max, IntKind.signed, IntKind.bits] using hwf
      injection hq with hq
      exact ⟨q, hq, hb⟩
    obtain ⟨f, hf⟩ := choose_lt hval
    refine ⟨(List.range len).map f, .inr ⟨a, cap, by simp, by simpa using hl, hm, fun j u hu => ?_⟩, ?_⟩
    · simp only [List.map_map, List.getElem?_map, Option.map_eq_some_iff] at hu
      obtain ⟨i, hi, rfl⟩ := hu
      obtain ⟨hj, rfl⟩ : j < len ∧ j = i := by
        rcases Nat.lt_or_ge j len with hj | hj
        · rw [List.getElem?_range hj] at hi; exact ⟨hj, Option.some.inj hi⟩
        · rw [List.getElem?_eq_none (by simpa using hj)] at hi; cases hi
      rw [(hV j (by omega)).1, (hf j hj).1]
      rfl
    · intro c hc
      obtain ⟨i, hi, rfl⟩ := List.mem_map.1 hc
      exact (hf i (by simpa using hi)).2
end

theorem own : ownKnob Try.prog.godebug = none := by kernel_rfl

set_option maxRecDepth 100000 in
theorem liftedPower (os : Os) (started : os.Started) (H : Type) (enc : TypeId × Value → H) : 
    ReturnsInHanded {} Try.checked os 3 .any (Rows.diskPowerSpec.pre6 enc Try.prog Try.f3 Rows.diskPowerRow.domain false) (Rows.diskPowerSpec.post enc Try.prog Try.f3 false true false false) := by
  refine returnsInHanded_of_change (C := Try.checked) (s := Rows.diskPowerSpec) own started (by kernel_rfl) Try.func3
    (ChangeSpec.witness6 (enc := enc) (C := Try.checked) (s := Rows.diskPowerSpec) false ⟨#[], #[.slice none 0 0], []⟩ 8 (by kernel_rfl) (by kernel_rfl) (by kernel_rfl) (by kernel_rfl)) ?_
  intro W base args ds gs before hval hW _ _
  have hW' := hW
  obtain ⟨p, q, hA0, hV, rfl, hfz, hnd⟩ := hW
  have hA : DataW.TrodAll enc Try.prog W 0 (fun _ => true) true Try.f3.params.toList args.toList ds p := hA0
  rw [Try.params3] at hA
  obtain ⟨rfl, rfl⟩ := trodVars_none hV
  obtain ⟨v0, vs, d0, ds', p0, p1, hvs, rfl, rfl, h0, h1⟩ := trodAll_cons hA
  obtain ⟨rfl, rfl, rfl⟩ := trodAll_nil h1
  obtain rfl : args = #[v0] := by rw [← Array.toList_inj]; exact hvs
  obtain ⟨fuel, hf⟩ := h0
  obtain ⟨a, len, cap, rfl⟩ := okWide_slice Try.underlying22 (hval 0 22 v0 (by rw [Try.params3]; rfl) rfl)
  obtain ⟨l, hl, hlb⟩ := open_ints hf
  refine (power_any _ l W hl hlb).mono fun e W' ⟨he, hm⟩ => ?_
  subst he
  refine ⟨_, rfl, post_law (P := Try.prog) (by kernel_rfl) hW' rfl ?_ (by kernel_rfl) Try.underlying4 rfl hm⟩
  intro t ht
  rw [Try.params3] at ht
  simp at ht
  subst ht
  exact ⟨by kernel_rfl, of_decide_eq_true (by kernel_rfl)⟩

theorem diskPower_holds : Rows.DiskPowerSaid :=
  OpenClaim.holds_of_wide 3 Try.f3 rfl rfl rfl rfl rfl rfl rfl ⟨rfl, rfl, rfl, rfl, rfl⟩ rfl rfl rfl rfl rfl (by kernel_rfl) Try.func3 (by kernel_rfl)
    (of_decide_eq_true (by kernel_rfl)) (by unfold Func.isWrapper; first | (rw [if_pos (by decide +kernel)]; kernel_rfl) | (rw [if_neg (by decide +kernel)]; exact ⟨rfl, rfl⟩))
    (fun os started H enc _ => liftedPower os started H enc)

end Go.Proofs.Ytdgjcmjbkmgohaa
