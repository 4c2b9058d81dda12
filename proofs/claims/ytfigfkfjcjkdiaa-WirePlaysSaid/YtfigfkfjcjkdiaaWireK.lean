/- WirePlays: the walk. -/
import Derived.Test.YtfigfkfjcjkdiaaWireI
import Derived.Test.YtfigfkfjcjkdiaaWireJ
import Derived.Deep.RegionHeld3
import Derived.Deep.DeepCutAuto
import Derived.Deep.CutBlock
namespace Go.Proofs.Ytfigfkfjcjkdiaa
open Go.RowKit Go.Sl Go.Conc

theorem infoInt : (Try.prog.info? 3).map (fun i => (i.zero, i.size, i.bytes)) = some (some (.int .i64 0), 1, 8) := by kernel_rfl
theorem pair_eq (x y : Int) (u : World) : (Op.equalIn 10000 44 (.agg #[.int .i64 x, .int .i64 y]) (.agg #[.int .i64 x, .int .i64 y])).run Try.prog u = .ok true u := by
  obtain ⟨i0, hi, _⟩ := info_parts infoInt
  rw [run_equalIn_array (P := Try.prog) u 9999 _ _ Try.underlying44 hi]
  have hc : Try.prog.cellsOf 3 = 1 := by kernel_rfl
  rw [hc]
  simp [Op.eqItems, List.range_succ, part, go_sem]

set_option maxRecDepth 100000 in
set_option maxHeartbeats 1000000 in
theorem plays_in (n : Nat) (v : Value) (l : List ActR) (w : World) (h : ActsAt w v l) (h1 : 1 ≤ n) (h2 : n ≤ 64) (hf : fewS l = true) :
    Calls Try.prog 3 #[.int .i64 n, v] w fun e w' => e = .returned (.bool true) ∧ Moves w w' [] [] := by
  obtain ⟨va, vc, hv⟩ : ∃ a c, v = .slice a l.length c := by
    rcases h with ⟨rfl, a, c, rfl⟩ | ⟨b, off, cap, rfl, _⟩
    · exact ⟨a, c, rfl⟩
    · exact ⟨_, _, rfl⟩
  subst hv
  have HA := Lib.hid h
  have HF := Lib.hid hf
  clear h hf
  go_enter Try.func3, Try.ntmps3
  go_wp2_with (first
    | (go_at_call 4; refine (new_in n _ h1 h2).mono ?_; rintro e w1 ⟨b, L1, rfl, hW, hM1⟩)
    | (go_at_call 5; refine (rnew_in n _ h1 h2).mono ?_; rintro e w2 ⟨b', L2, rfl, hR, hM2⟩; have M2 := Lib.hid ((hM1.call hM2).reR (M' := L1 ++ L2) fun f g h0 hc ha => by simp only [ha]; omega); clear hM1 hM2)
    | (go_at_call 6; refine (few_any _ l _ (HA.out.moves (M2.out.dropR (A := []) (B := _)))).mono ?_; (rintro e w3 ⟨rfl, rfl⟩; rw [HF.out])))
  go_loopw [7] (fun i wr => ∃ (k : Nat) (ss : List Lane) (L1 L2 : Frag), k ≤ l.length ∧ i = .int .i64 k ∧ WireF (.pointer (some ⟨b, 0, none⟩)) ss L1 ∧ RefF (.pointer (some ⟨b', 0, none⟩)) ss L2 ∧ Small ss ∧ Moves w wr [] (L1 ++ L2)) (fun i _ => l.length - (intOf i).toNat)
  case atStart => exact ⟨0, _, L1, L2, Nat.zero_le _, rfl, hW, hR, fun s hs m hm => (by rw [List.eq_of_mem_replicate hs] at hm; cases hm), M2.out⟩
  case round =>
    clear M2 hW hR
    obtain ⟨k, ss, L1, L2, hk, rfl, hW, hR, hS, hM⟩ := hrel
    have HM := Lib.hid hM
    clear hM
    by_cases hlt : k < l.length
    · obtain ⟨ba, off, cap, hva, hact⟩ := (HA.out.moves (HM.out.dropR (A := []) (B := _))).resolve_left (by rintro ⟨rfl, _⟩; simp at hlt)
      injection hva with hva1 _ hva3
      subst hva1 hva3
      obtain ⟨c0, c1, c2, c3, hB, hk0, hk1⟩ := hact k hlt
      obtain ⟨fa, fc, hfv⟩ := shape_at hB
      have HV := Lib.hid hfv
      have HB := Lib.hid hB
      rw [hfv] at c2
      clear hact hfv hB
      obtain ⟨oA, hoA⟩ : ∃ o : Obj, o = .cells #[.int .u8 l[k].kind, .int .i64 l[k].way, .slice fa l[k].frame.length fc, .int .i64 l[k].k] 31 (0, 0) := ⟨_, rfl⟩
      have h60 : l.length ≤ 60 := by
        have h6 := HF.out
        simp only [fewS, Bool.and_eq_true] at h6
        exact of_decide_eq_true h6.1
      have hfr : l[k].frame.length ≤ 131072 := by
        have h6 := HF.out
        simp only [fewS, Bool.and_eq_true] at h6
        have := of_decide_eq_true (List.all_eq_true.1 h6.2 _ (List.getElem_mem hlt))
        omega
      have HX : Hid (∀ w', Holds w' (whole w) → BytesAt w' (.slice fa l[k].frame.length fc) l[k].frame) := by
        show ∀ w', _
        intro w' hw'
        obtain ⟨ba', off', cap', hva', hact'⟩ := HA.out.resolve_left (by rintro ⟨rfl, _⟩; simp at hlt)
        have h7 := (hact' k hlt).2.2.2.2.1
        rw [HV.out] at h7
        exact RowAt.whole h7 hw'
      go_upto_block 2 with (fail)
      have M0 := Lib.hid (HM.out.alloc (.cells #[.int .u8 l[k].kind, .int .i64 l[k].way, .slice fa l[k].frame.length fc, .int .i64 l[k].k] 31 (0, 0)))
      have b1 := (M0.out.here (Holds.nil w)).cell0 (o := 1) rfl
      have b2 := (M0.out.here (Holds.nil w)).cell0 (o := 2) rfl
      have b3 := (M0.out.here (Holds.nil w)).cell0 (o := 3) rfl
      obtain ⟨wa, hwa⟩ : ∃ wa, wa = wr.alloc (.cells #[.int .u8 l[k].kind, .int .i64 l[k].way, .slice fa l[k].frame.length fc, .int .i64 l[k].k] 31 (0, 0)) := ⟨_, rfl⟩
      rw [← hwa] at M0 b1 b2 b3 ⊢
      clear hwa c0 c1 c2 c3 HM
      obtain ⟨A, hA⟩ : ∃ A, A = wr.heap.size := ⟨_, rfl⟩
      rw [← hA] at M0 b1 b2 b3 ⊢
      clear hA hoA oA
      go_cut [9, 10, 11, 12] (fun vb vc ve vf wc => ∃ (lb : List UInt8) (a9 a10 : Option Addr) (c9 c10 : Nat) (err : Int) (ss' : List Lane) (Lb L1' L2' : Frag),
        vb = .slice a9 lb.length c9 ∧ vc = .slice a10 lb.length c10 ∧ ve = .int .i64 err ∧ vf = .int .i64 err ∧ BytesF (.slice a9 lb.length c9) lb Lb ∧ (∀ w', Holds w' L2' → BytesAt w' (.slice a10 lb.length c10) lb) ∧
        WireF (.pointer (some ⟨b, 0, none⟩)) ss' L1' ∧ RefF (.pointer (some ⟨b', 0, none⟩)) ss' L2' ∧ Small ss' ∧
        Moves w wc [] ((A, .cells #[.int .u8 l[k].kind, .int .i64 l[k].way, .slice fa l[k].frame.length fc, .int .i64 l[k].k] 31 (0, 0)) :: (L1' ++ (L2' ++ Lb))))
      case first =>
        by_cases h2 : l[k].kind % 6 = 2
        · have t2 : (l[k].kind % 6 == 2) = true := by simp [h2]
          clear h2
          go_wp2_with (first
            | (go_at_call 8; refine (next_any _ ss L1 l[k].way _ hW ((M0.out.here (Holds.nil w)).right (A := [_])).left).mono ?_; rintro e w5 ⟨a5, c5, Lb, L1', rfl, hF5, hW5, hM5⟩; have M5 := Lib.hid (((M0.out.reR (M' := L1 ++ ((A, .cells #[.int .u8 l[k].kind, .int .i64 l[k].way, .slice fa l[k].frame.length fc, .int .i64 l[k].k] 31 (0, 0)) :: L2)) fun f g h0 hc ha => by simp only [hc, ha]; omega).calls hM5).reR (M' := (A, .cells #[.int .u8 l[k].kind, .int .i64 l[k].way, .slice fa l[k].frame.length fc, .int .i64 l[k].k] 31 (0, 0)) :: (L1' ++ (L2 ++ Lb))) fun f g h0 hc ha => by simp only [hc, ha]; omega); have d1 := (M5.out.here (Holds.nil w)).cell0 (o := 1) rfl; clear hM5)
            | (go_at_call 9; refine (rnext_any _ ss L2 l[k].way _ hR (((M5.out.here (Holds.nil w)).right (A := [_])).right (A := L1')).left).mono ?_; rintro e w6 ⟨a6, c6, L2', rfl, hF6, hR6, hM6⟩; have M6 := Lib.hid (((M5.out.reR (M' := L2 ++ ((A, .cells #[.int .u8 l[k].kind, .int .i64 l[k].way, .slice fa l[k].frame.length fc, .int .i64 l[k].k] 31 (0, 0)) :: (L1' ++ Lb))) fun f g h0 hc ha => by simp only [hc, ha]; omega).calls hM6).reR (M' := (A, .cells #[.int .u8 l[k].kind, .int .i64 l[k].way, .slice fa l[k].frame.length fc, .int .i64 l[k].k] 31 (0, 0)) :: (L1' ++ (L2' ++ Lb))) fun f g h0 hc ha => by simp only [hc, ha]; omega); clear hM6))
          go_meet
          case rel => exact ⟨_, a5, a6, c5, c6, _, _, Lb, L1', L2', rfl, rfl, rfl, rfl, hF5, hF6, hW5, hR6, small_next hS _, M6.out⟩
        · have t2 : (l[k].kind % 6 == 2) = false := by simp [h2]
          clear h2
          by_cases h3 : l[k].kind % 6 = 3
          · have t3 : (l[k].kind % 6 == 3) = true := by simp [h3]
            clear h3
            go_wp2_with (first
              | (go_at_call 10; refine (lose_any _ ss L1 l[k].way _ hW ((M0.out.here (Holds.nil w)).right (A := [_])).left).mono ?_; rintro e w5 ⟨L1', rfl, hW5, hM5⟩; have M5 := Lib.hid (((M0.out.reR (M' := L1 ++ ((A, .cells #[.int .u8 l[k].kind, .int .i64 l[k].way, .slice fa l[k].frame.length fc, .int .i64 l[k].k] 31 (0, 0)) :: L2)) fun f g h0 hc ha => by simp only [hc, ha]; omega).calls hM5).reR (M' := (A, .cells #[.int .u8 l[k].kind, .int .i64 l[k].way, .slice fa l[k].frame.length fc, .int .i64 l[k].k] 31 (0, 0)) :: (L1' ++ (L2 ++ []))) fun f g h0 hc ha => by simp only [h0, hc, ha]; omega); have d1 := (M5.out.here (Holds.nil w)).cell0 (o := 1) rfl; clear hM5)
              | (go_at_call 9; refine (rnext_any _ ss L2 l[k].way _ hR (((M5.out.here (Holds.nil w)).right (A := [_])).right (A := L1')).left).mono ?_; rintro e w6 ⟨a6, c6, L2', rfl, hF6, hR6, hM6⟩; have M6 := Lib.hid (((M5.out.reR (M' := L2 ++ ((A, .cells #[.int .u8 l[k].kind, .int .i64 l[k].way, .slice fa l[k].frame.length fc, .int .i64 l[k].k] 31 (0, 0)) :: (L1' ++ []))) fun f g h0 hc ha => by simp only [h0, hc, ha]; omega).calls hM6).reR (M' := (A, .cells #[.int .u8 l[k].kind, .int .i64 l[k].way, .slice fa l[k].frame.length fc, .int .i64 l[k].k] 31 (0, 0)) :: (L1' ++ (L2' ++ []))) fun f g h0 hc ha => by simp only [h0, hc, ha]; omega); clear hM6))
            go_meet
            case rel => exact ⟨[], none, none, 0, 0, _, _, [], L1', L2', rfl, rfl, rfl, rfl, bytesF_nil, fun _ _ => .inl ⟨rfl, rfl, rfl⟩, hW5, hR6, small_next hS _, M6.out⟩
          · have t3 : (l[k].kind % 6 == 3) = false := by simp [h3]
            clear h3
            by_cases h4 : l[k].kind % 6 = 4 ∨ l[k].kind % 6 = 5
            · have t4 : (l[k].kind % 6 == 4) = true ∨ ((l[k].kind % 6 == 4) = false ∧ (l[k].kind % 6 == 5) = true) := by
                rcases h4 with h4 | h4
                · exact .inl (by simp [h4])
                · exact .inr ⟨by simp [h4], by simp [h4]⟩
              clear h4
              rcases t4 with t4 | ⟨t4, t5⟩
              all_goals
                go_wp2_with (first
                  | (go_at_call 11; refine (pick_any _ ss L1 l[k].way l[k].k _ hW ((M0.out.here (Holds.nil w)).right (A := [_])).left hS).mono ?_; rintro e w5 ⟨a5, c5, Lb, rfl, hF5, hM5⟩; have M5 := Lib.hid ((M0.out.call hM5).reR (M' := (A, .cells #[.int .u8 l[k].kind, .int .i64 l[k].way, .slice fa l[k].frame.length fc, .int .i64 l[k].k] 31 (0, 0)) :: (L1 ++ (L2 ++ Lb))) fun f g h0 hc ha => by simp only [hc, ha]; omega); have d1 := (M5.out.here (Holds.nil w)).cell0 (o := 1) rfl; have d3 := (M5.out.here (Holds.nil w)).cell0 (o := 3) rfl; clear hM5)
                  | (go_at_call 12; refine (rpick_any _ ss L2 l[k].way l[k].k _ hR (((M5.out.here (Holds.nil w)).right (A := [_])).right (A := L1)).left).mono ?_; rintro e w6 ⟨a6, c6, rfl, hF6, rfl⟩))
                go_meet
                case rel => exact ⟨_, a5, a6, c5, c6, _, _, Lb, L1, L2, rfl, rfl, rfl, rfl, hF5, hF6, hW, hR, hS, M5.out⟩
            · have t4 : (l[k].kind % 6 == 4) = false := by simp; omega
              have t5 : (l[k].kind % 6 == 5) = false := by simp; omega
              clear h4
              go_upto_region 13 with (fail)
              go_region_held3 (fun w' => w'.cell? ⟨A, 1, none⟩ = some (.int .i64 l[k].way) ∧ w'.cell? ⟨A, 2, none⟩ = some (.slice fa l[k].frame.length fc)) (first | exact ⟨b1, b2⟩ | exact ⟨d1, d2⟩ | exact ⟨k1, k2⟩) (first
                | (go_simp; go_at_call 13; have H1 := (M0.out.drew.reR (M' := L1 ++ ((A, .cells #[.int .u8 l[k].kind, .int .i64 l[k].way, .slice fa l[k].frame.length fc, .int .i64 l[k].k] 31 (0, 0)) :: L2)) fun f g h0 hc ha => by simp only [hc, ha]; omega).to (whole w) (holds_whole w); rw [List.append_assoc] at H1; refine (send_any _ _ l[k].frame ss L1 _ l[k].way _ hW H1 (fun w' h' => HX.out w' h'.right) hfr).mono ?_; rintro e w5 ⟨L1', rfl, hW5, hM5⟩; have M5 := Lib.hid (((M0.out.drew.reR (M' := L1 ++ ((A, .cells #[.int .u8 l[k].kind, .int .i64 l[k].way, .slice fa l[k].frame.length fc, .int .i64 l[k].k] 31 (0, 0)) :: L2)) fun f g h0 hc ha => by simp only [hc, ha]; omega).calls hM5).reR (M' := (A, .cells #[.int .u8 l[k].kind, .int .i64 l[k].way, .slice fa l[k].frame.length fc, .int .i64 l[k].k] 31 (0, 0)) :: (L1' ++ (L2 ++ []))) fun f g h0 hc ha => by simp only [h0, hc, ha]; omega); have d1 := (M5.out.here (Holds.nil w)).cell0 (o := 1) rfl; have d2 := (M5.out.here (Holds.nil w)).cell0 (o := 2) rfl; clear hM5 H1)
                | (go_simp; go_at_call 14; have H1 := (M5.out.reR (M' := L2 ++ ((A, .cells #[.int .u8 l[k].kind, .int .i64 l[k].way, .slice fa l[k].frame.length fc, .int .i64 l[k].k] 31 (0, 0)) :: L1')) fun f g h0 hc ha => by simp only [h0, hc, ha]; omega).to (whole w) (holds_whole w); rw [List.append_assoc] at H1; refine (rsend_any _ _ l[k].frame ss L2 _ l[k].way _ hR H1 (fun w' h' => HX.out w' h'.right) hfr).mono ?_; rintro e w6 ⟨L2', rfl, hR6, hM6⟩; have M6 := Lib.hid (((M5.out.reR (M' := L2 ++ ((A, .cells #[.int .u8 l[k].kind, .int .i64 l[k].way, .slice fa l[k].frame.length fc, .int .i64 l[k].k] 31 (0, 0)) :: L1')) fun f g h0 hc ha => by simp only [h0, hc, ha]; omega).calls hM6).reR (M' := (A, .cells #[.int .u8 l[k].kind, .int .i64 l[k].way, .slice fa l[k].frame.length fc, .int .i64 l[k].k] 31 (0, 0)) :: (L1' ++ (L2' ++ []))) fun f g h0 hc ha => by simp only [h0, hc, ha]; omega); have k1 := (M6.out.here (Holds.nil w)).cell0 (o := 1) rfl; have k2 := (M6.out.here (Holds.nil w)).cell0 (o := 2) rfl; clear hM6 H1))
              all_goals
                go_wp2
                go_meet
                case rel => exact ⟨[], none, none, 0, 0, _, _, [], L1', L2', rfl, rfl, rfl, rfl, bytesF_nil, fun _ _ => .inl ⟨rfl, rfl, rfl⟩, hW5, hR6, small_send hS _ _ hfr, M6.out⟩
      case rest =>
        obtain ⟨lb, a9, a10, c9, c10, err, ss', Lb, L1', L2', rfl, rfl, rfl, rfl, hFb, hFc, hW', hR', hS', hM'⟩ := hcut
        have M9 := Lib.hid hM'
        have H9 := hM'.drew.here (Holds.nil w)
        have e1 := H9.cell0 (o := 1) rfl
        have d1 := e1
        have HF9 := Lib.hid hFb
        have HW9 := ((H9.right (A := [_])).left)
        have HR9 := (((H9.right (A := [_])).right (A := L1')).left)
        have HB9 := hFb.at ((((H9.right (A := [_])).right (A := L1')).right (A := L2')))
        have HC9 := hFc _ HR9
        clear hM' hFb hFc M0 b1 b2 b3 hW hR hS H9
        have hpe := fun u => pair_eq (cntS ss' l[k].way) (waitS ss' l[k].way) u
        go_upto_region 24 with (fail)
        go_region_held3 (fun w' => w'.cell? ⟨A, 1, none⟩ = some (.int .i64 l[k].way)) (first | exact d1 | exact f1) (first
          | (go_simp; go_at_call 15; refine (equal_any _ _ lb lb _ HB9 HC9).mono ?_; rintro e w7 ⟨rfl, rfl⟩; rw [beq_self_eq_true])
          | (go_simp; go_at_call 16; refine (count_any _ ss' L1' l[k].way _ hW' HW9).mono ?_; rintro e w7 ⟨rfl, rfl⟩)
          | (go_simp; go_at_call 17; refine (waiting_any _ ss' L1' l[k].way _ hW' HW9).mono ?_; rintro e w7 ⟨rfl, rfl⟩)
          | (go_simp; go_at_call 18; refine (counts_any _ ss' L2' l[k].way _ hR' HR9).mono ?_; rintro e w7 ⟨rfl, hM7⟩; have M10 := Lib.hid (M9.out.drew.trans (hM7.frame _)); have f1 := (M10.out.here (Holds.nil w)).cell0 (o := 1) rfl; clear hM7))
        all_goals
          have hMb := M10.out
          clear hpe HB9 HC9 HR9 HW9 d1 e1 f1 M9 M10
          have M10 := Lib.hid hMb
          clear hMb
          go_wp2
          go_loopw [13] (fun i wr => ∃ (j : Nat) (xs : List Value) (Lb' : Frag), j ≤ lb.length ∧ i = .int .i64 j ∧ RowF 5 1 (.slice a9 lb.length c9) lb.length xs Lb' ∧ Moves w wr [] ((A, .cells #[.int .u8 l[k].kind, .int .i64 l[k].way, .slice fa l[k].frame.length fc, .int .i64 l[k].k] 31 (0, 0)) :: (L1' ++ (L2' ++ Lb')))) (fun i _ => lb.length - (intOf i).toNat)
          case atStart => exact ⟨0, _, Lb, Nat.zero_le _, rfl, HF9.out, M10.out⟩
          case round =>
            clear M10 HF9
            obtain ⟨j, xs, Lb', hj, rfl, hFb, hMb⟩ := hrel
            by_cases hjl : j < lb.length
            · obtain ⟨hx1, ⟨hx2, hx3, _⟩ | ⟨g, cap', cur, hx2, rfl, hx4, hx5, hx6, hx7⟩⟩ := hFb
              · omega
              injection hx2 with hx8 _ hx9
              subst hx8 hx9
              have hcur : j < cur.size := by rw [hx6]; omega
              have hmx : c9 ≤ 9223372036854775807 := by unfold maxLen at hx5; exact hx5
              have Mg := hMb.reR (M' := (g, .cells cur 5 (0, 0)) :: ((A, .cells #[.int .u8 l[k].kind, .int .i64 l[k].way, .slice fa l[k].frame.length fc, .int .i64 l[k].k] 31 (0, 0)) :: (L1' ++ (L2' ++ [])))) fun f g h0 hc ha => by simp only [h0, hc, ha]; omega
              have Hg := Mg.here (Holds.nil w)
              have g1 : wr.cell? ⟨g, j, none⟩ = some cur[j] := Hg.cell0 (by simp [hcur])
              have g2 := Hg.free0 j
              have HMg := Lib.hid Mg
              have hcap : Hid (cur.size = c9 * 1) := hx6
              have htk : Hid (cur.toList.take (lb.length * 1) = xs) := hx7
              clear hMb Mg Hg hx6 hx7
              go_wp2
              go_roundw
              case rel =>
                refine ⟨j + 1, xs.set j (.int .u8 63), [(g, .cells (cur.setIfInBounds j (.int .u8 63)) 5 (0, 0))], by omega, by go_num, ⟨by simpa using hx1, .inr ⟨g, c9, _, rfl, rfl, hx4, hx5, by simpa using hcap.out, ?_⟩⟩, ?_⟩
                · rw [Array.toList_setIfInBounds, List.take_set, htk.out]
                · exact ((HMg.out.setCell j _)).reR fun f g h0 hc ha => by simp only [h0, hc, ha]; omega
              case measure => simp [intOf]; omega
            · have HMb := Lib.hid hMb
              clear hMb hFb
              go_wp2
              go_roundw
              case rel => exact ⟨k + 1, ss', L1', L2', by omega, by go_num, hW', hR', hS', ((HMb.out.reR (M' := ((A, .cells #[.int .u8 l[k].kind, .int .i64 l[k].way, .slice fa l[k].frame.length fc, .int .i64 l[k].k] 31 (0, 0)) :: Lb') ++ (L1' ++ L2')) fun f g h0 hc ha => by simp only [hc, ha]; omega).drop)⟩
              case measure => simp [intOf]; omega
    · go_wp2_with (go_at_call 7; refine (awake_any _).mono ?_; rintro e w4 ⟨rfl, hM4⟩)
      go_ret
      exact ⟨rfl, (HM.out.dropR (A := []) (B := _)).trans hM4⟩

end Go.Proofs.Ytfigfkfjcjkdiaa
