/- WirePlays: whatever ways and acts come in, the call returns true, and what came in reads as it did. No condition. -/
import Derived.Test.YtfigfkfjcjkdiaaWireK
import Derived.Test.YtfigfkfjcjkdiaaOpen
import Derived.Test.YtfigfkfjcjkdiaaPost
namespace Go.Proofs.Ytfigfkfjcjkdiaa
open Go.ChangeShapes Go.WideShapes Go.ChangeAt Go.RowKit Go.Sl Go.Deep

theorem plays_out (n : Int) (v : Value) (w : World) (h : NoNet n) :
    Calls Try.prog 3 #[.int .i64 n, v] w fun e w' => e = .returned (.bool true) ∧ Moves w w' [] [] := by
  go_enter Try.func3, Try.ntmps3
  go_wp2_with (first
    | (go_at_call 4; refine (new_out n _ h).mono ?_; rintro e w1 ⟨rfl, rfl⟩)
    | (go_at_call 5; refine (rnew_out n _ h).mono ?_; rintro e w2 ⟨rfl, rfl⟩)
    | (go_at_call 7; refine (awake_any _).mono ?_; rintro e w4 ⟨rfl, hM4⟩))
  go_ret
  exact ⟨rfl, hM4⟩
theorem plays_many (n : Nat) (v : Value) (l : List ActR) (w : World) (h : ActsAt w v l) (h1 : 1 ≤ n) (h2 : n ≤ 64) (hf : fewS l = false) :
    Calls Try.prog 3 #[.int .i64 n, v] w fun e w' => e = .returned (.bool true) ∧ Moves w w' [] [] := by
  have HA := Lib.hid h
  have HF := Lib.hid hf
  clear h hf
  go_enter Try.func3, Try.ntmps3
  go_wp2_with (first
    | (go_at_call 4; refine (new_in n _ h1 h2).mono ?_; rintro e w1 ⟨b, L1, rfl, hW, hM1⟩)
    | (go_at_call 5; refine (rnew_in n _ h1 h2).mono ?_; rintro e w2 ⟨b', L2, rfl, hR, hM2⟩; have M2 := Lib.hid ((hM1.call hM2).reR (M' := L1 ++ L2) fun f g h0 hc ha => by simp only [ha]; omega); clear hM1 hM2)
    | (go_at_call 6; refine (few_any _ l _ (HA.out.moves (M2.out.dropR (A := []) (B := _)))).mono ?_; (rintro e w3 ⟨rfl, rfl⟩; rw [HF.out]))
    | (go_at_call 7; refine (awake_any _).mono ?_; rintro e w4 ⟨rfl, hM4⟩))
  go_ret
  exact ⟨rfl, (M2.out.dropR (A := []) (B := _)).trans hM4⟩

theorem plays_any (n : Int) (v : Value) (l : List ActR) (w : World) (h : ActsAt w v l) :
    Calls Try.prog 3 #[.int .i64 n, v] w fun e w' => e = .returned (.bool true) ∧ Moves w w' [] [] := by
  by_cases hn : 1 ≤ n ∧ n ≤ 64
  · obtain ⟨k, rfl⟩ := Int.eq_ofNat_of_zero_le (by omega : 0 ≤ n)
    cases hf : fewS l
    · exact plays_many k v l w h (by omega) (by omega) hf
    · exact plays_in k v l w h (by omega) (by omega) hf
  · exact plays_out n v w (by unfold NoNet; omega)

section
variable {H : Type} {enc : TypeId × Value → H} {w : World} {base : Nat} {spare : Nat → Bool} {held : Bool} {fuel : Nat}
/-- Acts that came in. -/
theorem open_acts {v : Value} {x : DataW H × List MemPlace} (h : DataW.trod enc Try.prog w base spare held fuel 22 [v] = some x) : ∃ l, ActsAt w v l := by
  rcases open_slice (P := Try.prog) Try.underlying22 h with ⟨h0, _⟩ | ⟨a, len, cap, m, n, D, Pl, h0, _, hl, hm, hmm, _, hV⟩
  · injection h0 with h0; subst h0
    exact ⟨[], .inl ⟨rfl, _, _, rfl⟩⟩
  · injection h0 with h0; subst h0
    have hlm : len ≤ m := by rw [hmm]; split <;> omega
    have hc : Try.prog.cellsOf 31 = 4 := by kernel_rfl
    have hc1 : Try.prog.cellsOf 5 = 1 := by kernel_rfl
    have hc2 : Try.prog.cellsOf 3 = 1 := by kernel_rfl
    have hc3 : Try.prog.cellsOf 29 = 1 := by kernel_rfl
    rw [hc] at hV
    have key : ∀ i, i < len → ∃ r : ActR, ∀ j u, [Value.int .u8 r.kind, .int .i64 r.way, r.fv, .int .i64 r.k][j]? = some u → w.cell? (a.add (i * 4 + j)) = some u ∧ BytesAt w r.fv r.frame ∧ 0 ≤ r.kind ∧ r.kind ≤ 255 := by
      intro i hi
      obtain ⟨cs, hcs, ht⟩ := hV i (by omega)
      obtain ⟨_, hlen, hcell⟩ := World.cells?_some hcs
      obtain ⟨xs, n', _, _, _, hxs, hf⟩ := DataW.trod_struct Try.underlying31 ht
      match cs, hlen with
      | [v0, v1, v2, v3], _ =>
        have f0 := hf 0 _ rfl
        have f1 := hf 1 _ rfl
        have f2 := hf 2 _ rfl
        have f3 := hf 3 _ rfl
        simp [hc1, hc2, hc3] at f0 f1 f2 f3
        have some_of : ∀ i, i < 4 → ∃ y, xs[i]? = some y := fun i hi => ⟨xs[i]'(by rw [hxs]; exact hi), List.getElem?_eq_getElem _⟩
        obtain ⟨y0, e0⟩ := some_of 0 (by omega)
        obtain ⟨y1, e1⟩ := some_of 1 (by omega)
        obtain ⟨y2, e2⟩ := some_of 2 (by omega)
        obtain ⟨y3, e3⟩ := some_of 3 (by omega)
        rw [e0] at f0; rw [e1] at f1; rw [e2] at f2; rw [e3] at f3
        obtain ⟨q0, g0, _, w0⟩ := DataW.trod_int Try.underlying5 f0
        obtain ⟨q1, g1, _, w1⟩ := DataW.trod_int Try.underlying3 f1
        obtain ⟨q3, g3, _, w3⟩ := DataW.trod_int Try.underlying3 f3
        obtain ⟨l, hl'⟩ := open_bytes f2
        simp only [List.cons.injEq, and_true] at g0 g1 g3
        subst g0 g1 g3
        have hb : 0 ≤ q0 ∧ q0 ≤ 255 := by simpa [Lit.wf, IntKind.min, IntKind.max, IntKind.signed, IntKind.bits] using w0
        refine ⟨⟨q0, q1, v2, l, q3⟩, fun j u hu => ⟨?_, hl', hb.1, hb.2⟩⟩
        have hj : j < 4 := by
          rcases Nat.lt_or_ge j 4 with h | h
          · exact h
          · rw [List.getElem?_eq_none (by simpa using h)] at hu; cases hu
        rw [← Go.Deep.add_add, hcell j hj, hu]
    obtain ⟨f, hf⟩ : ∃ f : Nat → ActR, ∀ i, i < len → ∀ j u, [Value.int .u8 (f i).kind, .int .i64 (f i).way, (f i).fv, .int .i64 (f i).k][j]? = some u → w.cell? (a.add (i * 4 + j)) = some u ∧ BytesAt w (f i).fv (f i).frame ∧ 0 ≤ (f i).kind ∧ (f i).kind ≤ 255 := by
      haveI : Inhabited ActR := ⟨⟨0, 0, .int .i64 0, [], 0⟩⟩
      exact choose_lt key
    refine ⟨(List.range len).map f, ?_⟩
    by_cases h0 : len = 0
    · subst h0; exact .inl ⟨rfl, _, _, rfl⟩
    · right
      have hz := (hf 0 (by omega) 0 _ rfl).1
      have hpl : a = ⟨a.block, a.off, none⟩ := by
        rw [Nat.zero_mul, Nat.zero_add, Addr.add_zero'] at hz
        obtain ⟨b, off, spot⟩ := a
        cases spot with
        | none => rfl
        | some s => simp only [World.cell?] at hz; split at hz <;> simp at hz
      rw [hpl] at hf
      refine ⟨a.block, a.off, cap, by rw [← hpl]; simp, fun i hi => ?_⟩
      have hi' : i < len := by simpa using hi
      have e : ((List.range len).map f)[i] = f i := by simp
      rw [e]
      have k0 := hf i hi' 0 _ rfl
      have k1 := hf i hi' 1 _ rfl
      have k2 := hf i hi' 2 _ rfl
      have k3 := hf i hi' 3 _ rfl
      simp only [Addr.add_lit, Nat.add_zero] at k0 k1 k2 k3
      exact ⟨k0.1, by rw [Nat.add_assoc]; exact k1.1, by rw [Nat.add_assoc]; exact k2.1, by rw [Nat.add_assoc]; exact k3.1, k0.2⟩
end

theorem own : ownKnob Try.prog.godebug = none := by kernel_rfl

set_option maxRecDepth 100000 in
theorem lifted (os : Os) (started : os.Started) (H : Type) (enc : TypeId × Value → H) : 
    ReturnsInHanded {} Try.checked os 3 .any (Rows.wirePlaysSpec.pre6 enc Try.prog Try.f3 Rows.wirePlaysRow.domain false) (Rows.wirePlaysSpec.post enc Try.prog Try.f3 false true false false) := by
  refine returnsInHanded_of_change (C := Try.checked) (s := Rows.wirePlaysSpec) own started (by kernel_rfl) Try.func3
    (ChangeSpec.witness6 (enc := enc) (C := Try.checked) (s := Rows.wirePlaysSpec) false ⟨#[], #[.int .i64 0, .slice none 0 0], []⟩ 8 (by kernel_rfl) (by kernel_rfl) (by kernel_rfl) (by kernel_rfl)) ?_
  intro W base args ds gs before hval hW _ _
  have hW' := hW
  obtain ⟨p, q, hA0, hV, rfl, hfz, hnd⟩ := hW
  have hA : DataW.TrodAll enc Try.prog W 0 (fun _ => true) true Try.f3.params.toList args.toList ds p := hA0
  rw [Try.params3] at hA
  obtain ⟨rfl, rfl⟩ := trodVars_none hV
  obtain ⟨v0, v1, d0, d1, p0, p1, rfl, rfl, rfl, h0, h1⟩ := trodAll_two hA
  have hv : ∀ (j : Nat) t v, #[3, 22][j]? = some t → #[v0, v1][j]? = some v → Value.okWide Try.prog W .any base t v := fun j t v ht hv => hval j t v (by rw [Try.params3]; exact ht) hv
  obtain ⟨n, rfl, rfl, rfl, wn⟩ := open_int Try.underlying3 (hv 0 3 v0 rfl rfl) h0
  obtain ⟨fuel, hf⟩ := h1
  obtain ⟨a, len, cap, rfl⟩ := okWide_slice Try.underlying22 (hv 1 22 v1 rfl rfl)
  obtain ⟨l, hl⟩ := open_acts hf
  refine (plays_any n _ l W hl).mono fun e W' ⟨he, hm⟩ => ?_
  subst he
  refine ⟨_, rfl, post_law (P := Try.prog) (by kernel_rfl) hW' rfl ?_ (by kernel_rfl) Try.underlying4 rfl hm⟩
  intro t ht
  rw [Try.params3] at ht
  simp at ht
  rcases ht with rfl | rfl
  · exact ⟨by kernel_rfl, of_decide_eq_true (by kernel_rfl)⟩
  · exact ⟨by kernel_rfl, of_decide_eq_true (by kernel_rfl)⟩

theorem wirePlays_holds : Rows.WirePlaysSaid :=
  OpenClaim.holds_of_wide 3 Try.f3 rfl rfl rfl rfl rfl rfl rfl ⟨rfl, rfl, rfl, rfl, rfl⟩ rfl rfl rfl rfl rfl (by kernel_rfl) Try.func3 (by kernel_rfl)
    (of_decide_eq_true (by kernel_rfl)) (by unfold Func.isWrapper; first | (rw [if_pos (by decide +kernel)]; kernel_rfl) | (rw [if_neg (by decide +kernel)]; exact ⟨rfl, rfl⟩))
    (fun os started H enc _ => lifted os started H enc)

end Go.Proofs.Ytfigfkfjcjkdiaa
