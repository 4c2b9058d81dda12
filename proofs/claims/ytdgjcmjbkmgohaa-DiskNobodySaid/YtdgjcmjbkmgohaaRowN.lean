/- DiskNobody: whatever comes in, the call returns true, and what came in reads as it did. No condition. -/
import Derived.Test.YtdgjcmjbkmgohaaNobC
import Derived.Test.YtdgjcmjbkmgohaaOpen
import Derived.Test.YtdgjcmjbkmgohaaPost
namespace Go.Proofs.Ytdgjcmjbkmgohaa
open Go.ChangeShapes Go.WideShapes Go.ChangeAt Go.RowKit Go.Sl Go.Deep

set_option maxRecDepth 100000 in
theorem liftedDiskNobody (os : Os) (started : os.Started) (H : Type) (enc : TypeId × Value → H) : 
    ReturnsInHanded {} Try.checked os 7 .any (Rows.diskNobodySpec.pre6 enc Try.prog Try.f7 Rows.diskNobodyRow.domain false) (Rows.diskNobodySpec.post enc Try.prog Try.f7 false true false false) := by
  refine returnsInHanded_of_change (C := Try.checked) (s := Rows.diskNobodySpec) (show ownKnob Try.prog.godebug = none by kernel_rfl) started (by kernel_rfl) Try.func7
    (ChangeSpec.witness6 (enc := enc) (C := Try.checked) (s := Rows.diskNobodySpec) false ⟨#[], #[.agg #[.int .u8 0, .string ⟨#[]⟩, .string ⟨#[]⟩, .slice none 0 0, .int .i64 0, .slice none 0 0]], []⟩ 8 (by kernel_rfl) (by kernel_rfl) (by kernel_rfl) (by kernel_rfl)) ?_
  intro W base args ds gs before hval hW _ _
  have hW' := hW
  obtain ⟨p, q, hA0, hV, rfl, hfz, hnd⟩ := hW
  have hA : DataW.TrodAll enc Try.prog W 0 (fun _ => true) true Try.f7.params.toList args.toList ds p := hA0
  rw [Try.params7] at hA
  obtain ⟨rfl, rfl⟩ := trodVars_none hV
  obtain ⟨v0, vs0, d0, ds0, p0, q0, hvs0, rfl, rfl, h0, g0⟩ := trodAll_cons hA
  obtain ⟨rfl, rfl, rfl⟩ := trodAll_nil g0
  obtain rfl : args = #[v0] := by rw [← Array.toList_inj]; exact hvs0
  have hv : ∀ (j : Nat) t v, #[63][j]? = some t → #[v0][j]? = some v → Value.okWide Try.prog W .any base t v := fun j t v ht hv => hval j t v (by rw [Try.params7]; exact ht) hv
  obtain ⟨fuel0, f0⟩ := h0
  obtain ⟨cs0, rfl, _⟩ := okWide_struct Try.underlying63 (hv 0 63 v0 rfl rfl)
  obtain ⟨k0, n0, s0, t0, fa0, ca0, fn0, fc0, cn0, cc0, hcs⟩ := open_act f0
  obtain rfl : cs0 = #[.int .u8 k0, .string ⟨s0.toArray⟩, .string ⟨t0.toArray⟩, .slice fa0 fn0 fc0, .int .i64 n0, .slice ca0 cn0 cc0] := by rw [← Array.toList_inj]; exact hcs
  refine (nobody_any k0 n0 s0 t0 fa0 ca0 fn0 fc0 cn0 cc0 W).mono fun e W' ⟨he, hm⟩ => ?_
  subst he
  refine ⟨_, rfl, post_law (P := Try.prog) (by kernel_rfl) hW' rfl ?_ (by kernel_rfl) Try.underlying4 rfl hm⟩
  intro t ht
  rw [Try.params7] at ht
  simp at ht
  subst ht
  exact ⟨by kernel_rfl, of_decide_eq_true (by kernel_rfl)⟩

theorem diskNobody_holds : Rows.DiskNobodySaid :=
  OpenClaim.holds_of_wide 7 Try.f7 rfl rfl rfl rfl rfl rfl rfl ⟨rfl, rfl, rfl, rfl, rfl⟩ rfl rfl rfl rfl rfl (by kernel_rfl) Try.func7 (by kernel_rfl)
    (of_decide_eq_true (by kernel_rfl)) (by unfold Func.isWrapper; first | (rw [if_pos (by decide +kernel)]; kernel_rfl) | (rw [if_neg (by decide +kernel)]; exact ⟨rfl, rfl⟩))
    (fun os started H enc _ => liftedDiskNobody os started H enc)

end Go.Proofs.Ytdgjcmjbkmgohaa
