/- DiskLoads: whatever comes in, the call returns true, and what came in reads as it did. No condition. -/
import Derived.Test.YtdgjcmjbkmgohaaLawL1
import Derived.Test.YtdgjcmjbkmgohaaOpenF
import Derived.Test.YtdgjcmjbkmgohaaPost
namespace Go.Proofs.Ytdgjcmjbkmgohaa
open Go.ChangeShapes Go.WideShapes Go.ChangeAt Go.RowKit Go.Sl Go.Deep

set_option maxRecDepth 100000 in
theorem liftedDiskLoads (os : Os) (started : os.Started) (H : Type) (enc : TypeId × Value → H) : 
    ReturnsInHanded {} Try.checked os 6 .any (Rows.diskLoadsSpec.pre6 enc Try.prog Try.f6 Rows.diskLoadsRow.domain false) (Rows.diskLoadsSpec.post enc Try.prog Try.f6 false true false false) := by
  refine returnsInHanded_of_change (C := Try.checked) (s := Rows.diskLoadsSpec) (show ownKnob Try.prog.godebug = none by kernel_rfl) started (by kernel_rfl) Try.func6
    (ChangeSpec.witness6 (enc := enc) (C := Try.checked) (s := Rows.diskLoadsSpec) false ⟨#[], #[.slice none 0 0, .slice none 0 0], []⟩ 8 (by kernel_rfl) (by kernel_rfl) (by kernel_rfl) (by kernel_rfl)) ?_
  intro W base args ds gs before hval hW _ _
  have hW' := hW
  obtain ⟨p, q, hA0, hV, rfl, hfz, hnd⟩ := hW
  have hA : DataW.TrodAll enc Try.prog W 0 (fun _ => true) true Try.f6.params.toList args.toList ds p := hA0
  rw [Try.params6] at hA
  obtain ⟨rfl, rfl⟩ := trodVars_none hV
  obtain ⟨v0, vs0, d0, ds0, p0, q0, hvs0, rfl, rfl, h0, g0⟩ := trodAll_cons hA
  obtain ⟨v1, vs1, d1, ds1, p1, q1, hvs1, rfl, rfl, h1, g1⟩ := trodAll_cons g0
  obtain ⟨rfl, rfl, rfl⟩ := trodAll_nil g1
  subst hvs1
  obtain rfl : args = #[v0, v1] := by rw [← Array.toList_inj]; exact hvs0
  have hv : ∀ (j : Nat) t v, #[52, 52][j]? = some t → #[v0, v1][j]? = some v → Value.okWide Try.prog W .any base t v := fun j t v ht hv => hval j t v (by rw [Try.params6]; exact ht) hv
  obtain ⟨fuel0, f0⟩ := h0
  obtain ⟨a0, len0, cap0, rfl⟩ := okWide_slice Try.underlying52 (hv 0 52 v0 rfl rfl)
  obtain ⟨l0, hl0, hd0, hb0⟩ := open_files f0
  obtain ⟨fuel1, f1⟩ := h1
  obtain ⟨a1, len1, cap1, rfl⟩ := okWide_slice Try.underlying52 (hv 1 52 v1 rfl rfl)
  obtain ⟨l1, hl1, hd1, hb1⟩ := open_files f1
  refine (loads_any _ _ l0 l1 W hl0 hd0 hl1 hd1 (fun x hx => (List.mem_append.1 hx).elim (hb0 x) (hb1 x))).mono fun e W' ⟨he, hm⟩ => ?_
  subst he
  refine ⟨_, rfl, post_law (P := Try.prog) (by kernel_rfl) hW' rfl ?_ (by kernel_rfl) Try.underlying4 rfl hm⟩
  intro t ht
  rw [Try.params6] at ht
  simp at ht
  rcases ht with rfl | rfl
  all_goals exact ⟨by kernel_rfl, of_decide_eq_true (by kernel_rfl)⟩

theorem diskLoads_holds : Rows.DiskLoadsSaid :=
  OpenClaim.holds_of_wide 6 Try.f6 rfl rfl rfl rfl rfl rfl rfl ⟨rfl, rfl, rfl, rfl, rfl⟩ rfl rfl rfl rfl rfl (by kernel_rfl) Try.func6 (by kernel_rfl)
    (of_decide_eq_true (by kernel_rfl)) (by unfold Func.isWrapper; first | (rw [if_pos (by decide +kernel)]; kernel_rfl) | (rw [if_neg (by decide +kernel)]; exact ⟨rfl, rfl⟩))
    (fun os started H enc _ => liftedDiskLoads os started H enc)

end Go.Proofs.Ytdgjcmjbkmgohaa
