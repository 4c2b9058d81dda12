/- Crash, walked. -/
import Derived.Test.YtdgjcmjbkmgohaaDiskG
import Derived.Deep.CutRange
namespace Go.Proofs.Ytdgjcmjbkmgohaa
open Go.RowKit Go.Sl

theorem wrap_u64 (c : Int) : IntKind.u64.wrap c = c % 18446744073709551616 := by
  simp [IntKind.wrap, IntKind.bits, IntKind.signed]
theorem wrap_i64 (c : Int) (h1 : -9223372036854775808 ≤ c) (h2 : c < 9223372036854775808) : IntKind.i64.wrap c = c := by
  simp only [IntKind.wrap, IntKind.bits, IntKind.signed, Bool.true_and, Int.reducePow, Nat.reduceSub]
  by_cases hc : c % 18446744073709551616 ≥ 9223372036854775808
  · simp only [hc, decide_true, if_true]; omega
  · simp only [hc, decide_false, Bool.false_eq_true, if_false]; omega
theorem wrap_room (a b : Nat) (h : b ≤ a) (h2 : a ≤ 140737488355328) : IntKind.u64.wrap (IntKind.i64.wrap (IntKind.i64.wrap ((a : Int) - (b : Int)) + 1)) = ((a - b + 1 : Nat) : Int) := by
  rw [wrap_i64 ((a : Int) - b) (by omega) (by omega), wrap_i64 _ (by omega) (by omega), wrap_u64]
  omega
theorem tmod_u64 (c : Int) (n : Nat) : (c % 18446744073709551616).tmod ((n : Int) + 1) = (((c % 18446744073709551616).toNat % (n + 1) : Nat) : Int) := by
  have h0 : 0 ≤ c % 18446744073709551616 := Int.emod_nonneg _ (by decide)
  obtain ⟨a, ha⟩ := Int.eq_ofNat_of_zero_le h0
  rw [ha, Int.tmod_eq_emod_of_nonneg (by omega)]
  simp

set_option maxRecDepth 100000 in
set_option maxHeartbeats 4000000 in
theorem crash_any (b p : Nat) (pw : Pw) (fs : List (List UInt8 × FileR)) (L F : Frag) (x : Value) (cuts : List Int) (w : World) (hD : DiskF b (some ⟨p, 0, none⟩) fs L) (hL : Holds w (((p, pw.obj) :: L) ++ F))
    (hx : ∀ w', Holds w' F → RowAt w' x cuts.length (cuts.map fun c => .int .i64 c)) (hc : ∀ c ∈ cuts, -9223372036854775808 ≤ c ∧ c ≤ 9223372036854775807) (hk : ∀ q ∈ fs, q.1.length ≤ 40) (hn : fs.length ≤ 4096) (hok : AllOk fs) :
    Calls Try.prog 21 #[.pointer (some ⟨b, 0, none⟩), x] w fun e w' => ∃ L', e = .returned (.tuple #[]) ∧ DiskF b (some ⟨p, 0, none⟩) (crashTo cuts (namesOf fs) fs fs.length) L' ∧ Moves w w' ((p, pw.obj) :: L) ((p, pw.mend.obj) :: L') := by
  obtain ⟨xa, xc, rfl⟩ : ∃ a c, x = .slice a cuts.length c := by
    rcases hx w hL.right with ⟨h1, h2, _⟩ | ⟨a, c, h1, _⟩
    · exact ⟨none, 0, by rw [h1, h2]⟩
    · exact ⟨_, _, h1⟩
  have HN := Lib.hid (names_ok b (some ⟨p, 0, none⟩) fs L w hD (hL.left.right (A := [_])) hk hn)
  obtain ⟨m, om, l, Lf, rfl, ho, hf⟩ := hD
  have d1 := (hL.left.right (A := [_])).cell0 (o := 1) rfl
  have HL := Lib.hid hL
  have HX := Lib.hid hx
  have HO := Lib.hid ho
  have HF := Lib.hid hf
  have HOK := Lib.hid hok
  have HC := Lib.hid hc
  clear hL hx ho hf hok hk hc
  go_enter Try.func21, Try.ntmps21
  go_wp2_with (fail)
  refine (made_any b m _ d1).mono ?_
  rintro e w' ⟨rfl, rfl⟩
  go_wp2_with (fail)
  refine HN.out.mono ?_
  rintro e w2 ⟨v, N, rfl, hR, hM⟩
  obtain ⟨na, nc, rfl⟩ := RowF.shape hR
  have HR := Lib.hid hR
  have M2 := Lib.hid (((Moves.refl w ((p, pw.obj) :: (b, .cells #[.pointer (some ⟨p, 0, none⟩), .map (some m)] 70 (0, 0)) :: (m, om) :: Lf)).call hM))
  clear hR hM d1 HN
  go_wp2_with (fail)
  go_loopw [14] (fun i wr => ∃ (k : Nat) (om' : Obj) (l' : List (List UInt8 × Value)) (Lf' : Frag), k ≤ fs.length ∧ i = .int .i64 k ∧ MapO l' om' ∧ FilesF l' (crashTo cuts (namesOf fs) fs k) Lf' ∧
    Moves w wr ((p, pw.obj) :: (b, .cells #[.pointer (some ⟨p, 0, none⟩), .map (some m)] 70 (0, 0)) :: (m, om) :: Lf) ((p, pw.obj) :: (b, .cells #[.pointer (some ⟨p, 0, none⟩), .map (some m)] 70 (0, 0)) :: (m, om') :: (Lf' ++ N))) (fun i _ => fs.length - (intOf i).toNat)
  case atStart => exact ⟨0, om, l, Lf, Nat.zero_le _, rfl, HO.out, HF.out, M2.out.reR fun f g h0 hc ha => by simp only [hc, ha]; omega⟩
  case round =>
    clear M2 HO HF
    obtain ⟨k, om', l', Lf', hk, rfl, ho, hf, hM⟩ := hrel
    have HM := Lib.hid hM
    by_cases hlt : k < fs.length
    · obtain ⟨nm, hnm⟩ : ∃ nm, (namesOf fs)[k]? = some nm := ⟨_, List.getElem?_eq_getElem (by rw [namesOf_length]; exact hlt)⟩
      have H0 := (hM.to _ HL.out)
      obtain ⟨ng, nc', hng, _, hnc2, hcell⟩ := RowF.some HR.out (w := wr) (H0.left.re (L' := N ++ ((p, pw.obj) :: (b, .cells #[.pointer (some ⟨p, 0, none⟩), .map (some m)] 70 (0, 0)) :: (m, om') :: Lf')) fun f g h0 hc ha => by simp only [hc, ha]; omega).left (by omega)
      injection hng with hng1 hng2 hng3
      subst hng1 hng3
      have g1 := hcell k (.string ⟨nm.toArray⟩) (by rw [List.getElem?_map, hnm]; rfl)
      obtain ⟨f, hlf⟩ := lookF_some (fs := crashTo cuts (namesOf fs) fs k) (k := nm) (by rw [crashTo_keys]; exact (namesOf_perm fs).mem_iff.1 (List.mem_of_getElem? hnm))
      have hkf : Hid (crashTo cuts (namesOf fs) fs (k + 1) = putF (crashTo cuts (namesOf fs) fs k) nm (cutFile cuts k f)) := crashTo_succ hnm hlf
      have hfo : OkF f := crashTo_ok (cuts := cuts) (ns := namesOf fs) HOK.out k _ (lookF_mem hlf)
      obtain ⟨v, f', A, B, C, hlk, hlf', ⟨dv, hv, hdv⟩, rfl, hput⟩ := (hf.look nm).resolve_left (by rintro ⟨_, h, _⟩; rw [hlf] at h; cases h)
      obtain rfl : f' = f := Option.some.inj (hlf'.symm.trans hlf)
      obtain ⟨da, dc, rfl⟩ := RowF.shape hdv
      have HD := Lib.hid hdv
      have HP := Lib.hid hput
      have hlk' : Hid ((lookM l' nm).getD zf = .agg #[.slice da f'.data.length dc, .int .i64 f'.kept]) := by show _ = _; rw [hlk, hv]; rfl
      have ho' := Lib.hid ho
      have hcn := cutN_le cuts k f' hfo.1
      obtain ⟨cn, hcn0⟩ : ∃ cn, cn = cutN cuts k f' := ⟨_, rfl⟩
      rw [← hcn0] at hcn
      obtain ⟨ob1, hb2⟩ := hfo
      have HCN := Lib.hid hcn0
      have d1 := (H0.left.right (A := [_])).cell0 (o := 1) rfl
      have hlq : (Instr.lookup 68 (.map (some m)) (.string ⟨nm.toArray⟩) false).run Try.prog wr = .ok (.agg #[.slice da f'.data.length dc, .int .i64 f'.kept]) wr := by
        rw [← hlk'.out]
        exact run_look (P := Try.prog) (w := wr) Try.underlying68 Try.underlying9 (H0.left.get (List.mem_cons_of_mem _ (List.mem_cons_of_mem _ (List.mem_cons_self ..)))) ho'.out nm (zeroFile _) false
      have HNR : Hid (∃ nr, nr = (p, pw.obj) :: (b, .cells #[.pointer (some ⟨p, 0, none⟩), .map (some m)] 70 (0, 0)) :: (m, om) :: Lf) := ⟨_, rfl⟩
      have lb := cell_lt d1
      clear hM hcell hf hlf hlf' hlk hv hdv hput ho H0 hnm hcn0
      have M3 := Lib.hid (HM.out.alloc (.cells #[.slice da f'.data.length dc, .int .i64 f'.kept] 77))
      clear HM
      go_upto_if 28 with (fail)
      obtain ⟨wa, hwa⟩ : ∃ wa, wa = wr.alloc (.cells #[.slice da f'.data.length dc, .int .i64 f'.kept] 77) := ⟨_, rfl⟩
      rw [← hwa] at M3 ⊢
      obtain ⟨Bx, hBx⟩ : ∃ Bx, Bx = wr.heap.size := ⟨_, rfl⟩
      rw [← hBx] at M3 ⊢
      clear hwa hBx hlq d1 g1 lb
      go_cut [7, 14] from 14 to 63 (fun n i wc => n = .int .i64 (cn : Int) ∧ i = .int .i64 (k : Int) ∧ Moves w wc ((p, pw.obj) :: (b, .cells #[.pointer (some ⟨p, 0, none⟩), .map (some m)] 70 (0, 0)) :: (m, om) :: Lf) ((Bx, .cells #[.slice da f'.data.length dc, .int .i64 f'.kept] 77 (0, 0)) :: (p, pw.obj) :: (b, .cells #[.pointer (some ⟨p, 0, none⟩), .map (some m)] 70 (0, 0)) :: (m, om') :: (A ++ (B ++ C) ++ N)))
      case first =>
        by_cases hcl : k < cuts.length
        · obtain ⟨ca, cc, hxv, _, _, hcells⟩ := (HX.out wa (M3.out.to _ HL.out).right).resolve_left (by rintro ⟨_, h, _⟩; omega)
          injection hxv with hx1 _ hx3
          subst hx1 hx3
          have hcr := HC.out cuts[k] (List.getElem_mem hcl)
          have hq := hcells k (.int .i64 cuts[k]) (by simp [hcl])
          obtain ⟨cb, co, cs⟩ := ca
          obtain rfl : cs = none := by
            have hne : (cuts.map fun c => Value.int .i64 c) ≠ [] := fun e => (by have := congrArg List.length e; simp at this; rw [this] at hcl; simp at hcl)
            have := (RowAt.lt (HX.out wa (M3.out.to _ HL.out).right) hne).2
            injection this
          rw [Addr.add_lit] at hq
          have H3 := (M3.out.to _ HL.out).left
          have b0 := H3.cell0 (o := 0) rfl
          have b1 := H3.cell0 (o := 1) rfl
          clear H3 hcells
          have HCV : Hid (cn = (cuts[k] % 18446744073709551616).toNat % (f'.data.length - f'.kept + 1)) := by show _ = _; rw [HCN.out]; simp [cutN, hcl]
          obtain ⟨cv, hcv2⟩ : ∃ cv, cv = cuts[k] := ⟨_, rfl⟩
          rw [← hcv2] at HCV hcr hq
          clear hcv2
          go_upto_region 7 with (fail)
          refine wp_still_tail 15 (by kernel_rfl) (by kernel_rfl) ?_
          simp only [List.take_succ_cons, List.take_zero, List.drop_succ_cons, List.drop_zero]
          iterate 13 still_step
          have hw1 := wrap_room f'.data.length f'.kept ob1 hb2
          have hw2 := wrap_u64 cv
          have HRM := Lib.hid (tmod_u64 cv (f'.data.length - f'.kept))
          rw [hw1, hw2]
          clear hw1 hw2
          refine wpStill_step (fun K hK => ?_)
          go_simp
          rw [if_neg (by omega : ¬ ((((f'.data.length - f'.kept : Nat) : Int)) + 1 = 0)), HRM.out, ← HCV.out]
          refine ⟨rfl, hK _ ?_⟩
          clear hK
          repeat still_step
          refine wpStill_nil ?_
          have hw3 := wrap_i64 (cn : Int) (by omega) (by omega)
          rw [hw3]
          clear hw3
          go_wp2_with (fail)
          go_meet
          case rel => exact ⟨rfl, rfl, M3.out.drew⟩
        · go_wp2_with (fail)
          go_meet
          case rel => exact ⟨by rw [HCN.out]; simp [cutN, hcl], rfl, M3.out⟩
      case rest =>
        obtain ⟨rfl, rfl, hM⟩ := hcut
        have M4 := Lib.hid hM
        have hkc : ((f'.kept : Int) + (cn : Int)) = ((f'.kept + cn : Nat) : Int) := by omega
        obtain ⟨nk, hnk⟩ : ∃ nk, nk = f'.kept + cn := ⟨_, rfl⟩
        rw [← hnk] at hkc hcn
        have hwk : IntKind.i64.wrap ((f'.kept : Int) + (cn : Int)) = (nk : Int) := by rw [hkc]; exact wrap_i64 _ (by omega) (by omega)
        have hnk2 : (nk : Int) ≤ 9223372036854775807 := by omega
        clear hkc
        have hcf : Hid (cutFile cuts k f' = ⟨f'.data.take nk, nk⟩) := by show _ = _; rw [hnk, HCN.out]; rfl
        obtain ⟨hB', hda⟩ := bytesF_take HD.out nk hcn
        have HB' := Lib.hid hB'
        have H4 := hM.here HL.out.left
        have b0 := H4.cell0 (o := 0) rfl
        have b1 := H4.cell0 (o := 1) rfl
        have fz0 := H4.free0 0
        have fz1 := H4.free0 1
        have lb := H4.lt0
        have d1 := (H4.right (A := [_, _])).cell0 (o := 1) rfl
        have ld := cell_lt d1
        clear hM H4 M3 hB'
        have hdd : (if nk = 0 then da else da.map (·.add (0 * 1))) = da := by
          rcases hda with ⟨rfl, _⟩ | ⟨g, rfl, _⟩
          · simp
          · simp [Addr.add]
        have hdn : nk ≤ dc := by
          rcases hda with ⟨_, h1, _, h2⟩ | ⟨_, _, h⟩ <;> omega
        go_upto_region 10 with (fail)
        have M6 : Hid (Moves w ((wc.setCell ⟨Bx, 1, none⟩ (.int .i64 ((f'.kept : Int) + (cn : Int)))).setCell ⟨Bx, 0, none⟩ (.slice da (f'.kept + cn) (f'.kept + cn))) ((p, pw.obj) :: (b, .cells #[.pointer (some ⟨p, 0, none⟩), .map (some m)] 70 (0, 0)) :: (m, om) :: Lf) ((Bx, .cells #[.slice da (f'.kept + cn) (f'.kept + cn), .int .i64 ((f'.kept : Int) + (cn : Int))] 77 (0, 0)) :: (p, pw.obj) :: (b, .cells #[.pointer (some ⟨p, 0, none⟩), .map (some m)] 70 (0, 0)) :: (m, om') :: (A ++ (B ++ C) ++ N))) :=
          Lib.hid ((M4.out.setCell 1 (.int .i64 ((f'.kept : Int) + (cn : Int)))).setCell 0 (.slice da (f'.kept + cn) (f'.kept + cn)))
        obtain ⟨w6, hw6⟩ : ∃ w6, w6 = (wc.setCell ⟨Bx, 1, none⟩ (.int .i64 ((f'.kept : Int) + (cn : Int)))).setCell ⟨Bx, 0, none⟩ (.slice da (f'.kept + cn) (f'.kept + cn)) := ⟨_, rfl⟩
        rw [← hw6] at M6 ⊢
        clear b0 b1 d1 lb ld fz0 fz1 hw6 hdd M4
        have H6 := M6.out.here HL.out.left
        have b0 := H6.cell0 (o := 0) rfl
        have b1 := H6.cell0 (o := 1) rfl
        have d1 := (H6.right (A := [_, _])).cell0 (o := 1) rfl
        have lb := H6.lt0
        refine wp_still_tail 6 (by kernel_rfl) (by kernel_rfl) ?_
        simp only [List.take_succ_cons, List.take_zero, List.drop_succ_cons, List.drop_zero]
        repeat still_step
        refine wpStill_nil ?_
        go_wp2_with (at_mapUpdate; refine wpList_put rfl (.tmp 60) (.tmp 61) (.tmp 62) 68 9 77 rfl Try.underlying68 Try.underlying9 m om' (((Bx, .cells #[.slice da (f'.kept + cn) (f'.kept + cn), .int .i64 ((f'.kept : Int) + (cn : Int))] 77 (0, 0)) :: (p, pw.obj) :: (b, .cells #[.pointer (some ⟨p, 0, none⟩), .map (some m)] 70 (0, 0)) :: (A ++ (B ++ C) ++ N))) rfl (H6.re fun f g h0 hc ha => by simp only [hc, ha]; omega) l' ho'.out nm rfl _ rfl ?_; intro w7 o7 ho7 hM7)
        go_roundw
        case rel =>
          have h6 := HP.out (.agg #[.slice da (f'.kept + cn) (f'.kept + cn), .int .i64 ((f'.kept : Int) + (cn : Int))]) ⟨f'.data.take nk, nk⟩ B ⟨_, by rw [hnk]; rfl, by rw [← hnk]; exact HB'.out⟩
          rw [← hcf.out, ← hkf.out] at h6
          refine ⟨k + 1, o7, _, _, by omega, by go_num, ho7, h6, ?_⟩
          exact (((M6.out.drew.reR (M' := [(m, om')] ++ ((Bx, .cells #[.slice da (f'.kept + cn) (f'.kept + cn), .int .i64 ((f'.kept : Int) + (cn : Int))] 77 (0, 0)) :: (p, pw.obj) :: (b, .cells #[.pointer (some ⟨p, 0, none⟩), .map (some m)] 70 (0, 0)) :: (A ++ (B ++ C) ++ N))) fun f g h0 hc ha => by simp only [h0, hc, ha]; omega).calls hM7).reR (M' := [(Bx, .cells #[.slice da (f'.kept + cn) (f'.kept + cn), .int .i64 ((f'.kept : Int) + (cn : Int))] 77 (0, 0))] ++ ((p, pw.obj) :: (b, .cells #[.pointer (some ⟨p, 0, none⟩), .map (some m)] 70 (0, 0)) :: (m, o7) :: (A ++ (B ++ C) ++ N))) fun f g h0 hc ha => by simp only [h0, hc, ha]; omega).drop
        case measure => simp [intOf]; omega
    · have hk2 : k = fs.length := by omega
      subst hk2
      have H0 := hM.here HL.out.left
      have d0 := (H0.right (A := [_])).cell0 (o := 0) rfl
      have G1 := Lib.hid (H0.left (A := [_]))
      have HO := Lib.hid ho
      have HF := Lib.hid hf
      clear hM H0 ho hf
      go_wp2_with (fail)
      refine (mend_any p pw _ G1.out).mono ?_
      rintro e w7 ⟨rfl, hM7⟩
      go_wp2
      go_end0
      refine ⟨_, rfl, ⟨m, om', l', Lf', rfl, HO.out, HF.out⟩, ?_⟩
      exact ((HM.out.calls (A := [_]) hM7).reR (M' := N ++ ((p, pw.mend.obj) :: (b, .cells #[.pointer (some ⟨p, 0, none⟩), .map (some m)] 70 (0, 0)) :: (m, om') :: Lf')) fun f g h0 hc ha => by simp only [h0, hc, ha]; omega).drop

end Go.Proofs.Ytdgjcmjbkmgohaa
