/- Sync, Read. -/
import Derived.Test.YtdgjcmjbkmgohaaDiskD
namespace Go.Proofs.Ytdgjcmjbkmgohaa
open Go.RowKit Go.Sl

set_option maxRecDepth 100000 in
set_option maxHeartbeats 2000000 in
theorem sync_ok (b p : Nat) (pw : Pw) (fs : List (List UInt8 × FileR)) (L : Frag) (k : List UInt8) (f : FileR) (w : World) (hD : DiskF b (some ⟨p, 0, none⟩) fs L) (hL : Holds w ((p, pw.obj) :: L)) (hk : Named k) (hon : pw.on = true) (hab : lookF fs k = some f)
    (hact : pw.act.1 = 0) (hok : pw.ok) :
    Calls Try.prog 20 #[.pointer (some ⟨b, 0, none⟩), .string ⟨k.toArray⟩] w fun e w' => ∃ L', e = .returned (.int .i64 0) ∧ DiskF b (some ⟨p, 0, none⟩) (putF fs k ⟨f.data, f.data.length⟩) L' ∧ Moves w w' ((p, pw.obj) :: L) ((p, pw.act.2.obj) :: L') := by
  obtain ⟨m, om, l, Lf, rfl, ho, hf⟩ := hD
  have HT := Lib.hid (there_at b p pw m om l fs Lf [] k w ho hf hk hon (by rw [List.append_nil]; exact hL))
  have E1 : Hid (thereE fs k = 0) := by show _ = _; simp [thereE, hab]
  have EA := Lib.hid hact
  have HL := Lib.hid hL
  obtain ⟨v, f', A, B, C, hlk, hlf, ⟨dv, hv, hdv⟩, rfl, hput⟩ := (hf.look k).resolve_left (by rintro ⟨_, h, _⟩; rw [hab] at h; cases h)
  obtain rfl : f' = f := Option.some.inj (hlf.symm.trans hab)
  obtain ⟨da, dc, rfl⟩ := RowF.shape hdv
  have HD := Lib.hid hdv
  have HP := Lib.hid hput
  have hlk' : Hid ((lookM l k).getD zf = .agg #[.slice da f'.data.length dc, .int .i64 f'.kept]) := by show _ = _; rw [hlk, hv]; rfl
  have ho' := Lib.hid ho
  have M0 := Lib.hid (Moves.refl w ((p, pw.obj) :: (b, .cells #[.pointer (some ⟨p, 0, none⟩), .map (some m)] 70 (0, 0)) :: (m, om) :: (A ++ (B ++ C))))
  clear ho hf hk hon hL hab hlf hdv hlk hv hact hput
  go_enter Try.func20, Try.ntmps20
  go_wp2_with (fail)
  refine HT.out.mono ?_
  rintro e w2 ⟨rfl, hM⟩
  rw [E1.out]
  have M2 := Lib.hid (M0.out.call hM)
  have hL2 := M2.out.here HL.out
  have d1 := (hL2.right (A := [_])).cell0 (o := 1) rfl
  have d0 := (hL2.right (A := [_])).cell0 (o := 0) rfl
  have G1 := Lib.hid (hL2.left (A := [_]))
  clear hM hL2 M0 HT
  go_wp2_with (fail)
  refine (act_pl p pw _ G1.out hok.1 hok.2).mono ?_
  rintro e w3 ⟨rfl, hM⟩
  rw [EA.out]
  have M3 := Lib.hid (M2.out.calls (A := [_]) hM)
  have hL3 := M3.out.here HL.out
  clear hM d1 d0 G1 M2
  have d1 := (hL3.right (A := [_])).cell0 (o := 1) rfl
  have hlq : (Instr.lookup 68 (.map (some m)) (.string ⟨k.toArray⟩) false).run Try.prog w3 = .ok (.agg #[.slice da f'.data.length dc, .int .i64 f'.kept]) w3 := by
    rw [← hlk'.out]
    exact run_look (P := Try.prog) (w := w3) Try.underlying68 Try.underlying9 (hL3.get (List.mem_cons_of_mem _ (List.mem_cons_of_mem _ (List.mem_cons_self ..)))) ho'.out k (zeroFile _) false
  have M4 := Lib.hid (M3.out.alloc (.cells #[.slice da f'.data.length dc, .int .i64 f'.kept] 77))
  clear hL3 M3
  have lb := cell_lt d1
  go_upto_region 8 with (fail)
  obtain ⟨wa, hwa⟩ : ∃ wa, wa = w3.alloc (.cells #[.slice da f'.data.length dc, .int .i64 f'.kept] 77) := ⟨_, rfl⟩
  rw [← hwa] at M4 ⊢
  obtain ⟨Bx, hBx⟩ : ∃ Bx, Bx = w3.heap.size := ⟨_, rfl⟩
  rw [← hBx] at M4 ⊢
  clear hwa hBx hlq d1 lb
  have H4 := M4.out.here HL.out
  have b0 := H4.cell0 (o := 0) rfl
  have b1 := H4.cell0 (o := 1) rfl
  have fz1 := H4.free0 1
  have lb := H4.lt0
  have d1 := (H4.right (A := [_, _])).cell0 (o := 1) rfl
  have ld := cell_lt d1
  have M6 : Hid (Moves w (wa.setCell ⟨Bx, 1, none⟩ (.int .i64 f'.data.length)) ((p, pw.obj) :: (b, .cells #[.pointer (some ⟨p, 0, none⟩), .map (some m)] 70 (0, 0)) :: (m, om) :: (A ++ (B ++ C))) ((Bx, .cells #[.slice da f'.data.length dc, .int .i64 f'.data.length] 77 (0, 0)) :: (b, .cells #[.pointer (some ⟨p, 0, none⟩), .map (some m)] 70 (0, 0)) :: (p, pw.act.2.obj) :: (m, om) :: (A ++ (B ++ C)))) :=
    Lib.hid ((M4.out.reR (M' := (Bx, .cells #[.slice da f'.data.length dc, .int .i64 f'.kept] 77 (0, 0)) :: (b, .cells #[.pointer (some ⟨p, 0, none⟩), .map (some m)] 70 (0, 0)) :: (p, pw.act.2.obj) :: (m, om) :: (A ++ (B ++ C))) fun f g h0 hc ha => by simp only [h0, hc, ha]; omega).setCell 1 (.int .i64 f'.data.length))
  clear H4 M4
  go_upto_region 9 with (fail)
  obtain ⟨w6, hw6⟩ : ∃ w6, w6 = wa.setCell ⟨Bx, 1, none⟩ (.int .i64 f'.data.length) := ⟨_, rfl⟩
  rw [← hw6] at M6 ⊢
  clear b0 b1 d1 lb ld fz1 hw6
  have H6 := M6.out.here HL.out
  have b0 := H6.cell0 (o := 0) rfl
  have b1 := H6.cell0 (o := 1) rfl
  have d1 := H6.cell1 (o := 1) rfl
  have lb := H6.lt0
  refine wp_still_tail 6 (by kernel_rfl) (by kernel_rfl) ?_
  simp only [List.take_succ_cons, List.take_zero, List.drop_succ_cons, List.drop_zero]
  repeat still_step
  refine wpStill_nil ?_
  go_wp2_with (at_mapUpdate; refine wpList_put rfl (.tmp 36) (.tmp 37) (.tmp 38) 68 9 77 rfl Try.underlying68 Try.underlying9 m om (((Bx, .cells #[.slice da f'.data.length dc, .int .i64 f'.data.length] 77 (0, 0)) :: (b, .cells #[.pointer (some ⟨p, 0, none⟩), .map (some m)] 70 (0, 0)) :: (p, pw.act.2.obj) :: (A ++ (B ++ C)))) rfl (H6.re fun f g h0 hc ha => by simp only [hc, ha]; omega) l ho'.out k rfl _ rfl ?_; intro w7 o7 ho7 hM7)
  go_ret
  have h6 := HP.out (.agg #[.slice da f'.data.length dc, .int .i64 f'.data.length]) ⟨f'.data, f'.data.length⟩ B ⟨_, rfl, HD.out⟩
  refine ⟨_, rfl, ⟨m, o7, _, _, rfl, ho7, h6⟩, ?_⟩
  exact (((M6.out.drew.reR (M' := [(m, om)] ++ ((Bx, .cells #[.slice da f'.data.length dc, .int .i64 f'.data.length] 77 (0, 0)) :: (b, .cells #[.pointer (some ⟨p, 0, none⟩), .map (some m)] 70 (0, 0)) :: (p, pw.act.2.obj) :: (A ++ (B ++ C)))) fun f g h0 hc ha => by simp only [h0, hc, ha]; omega).calls hM7).reR (M' := [(Bx, .cells #[.slice da f'.data.length dc, .int .i64 f'.data.length] 77 (0, 0))] ++ ((p, pw.act.2.obj) :: (b, .cells #[.pointer (some ⟨p, 0, none⟩), .map (some m)] 70 (0, 0)) :: (m, o7) :: (A ++ (B ++ C)))) fun f g h0 hc ha => by simp only [h0, hc, ha]; omega).drop

set_option maxRecDepth 100000 in
set_option maxHeartbeats 1000000 in
theorem read_ok (b p : Nat) (pw : Pw) (fs : List (List UInt8 × FileR)) (L : Frag) (k : List UInt8) (f : FileR) (w : World) (hD : DiskF b (some ⟨p, 0, none⟩) fs L) (hL : Holds w ((p, pw.obj) :: L)) (hk : Named k) (hon : pw.on = true) (hab : lookF fs k = some f) (hlen : f.data.length ≤ 140737488355328) :
    Calls Try.prog 22 #[.pointer (some ⟨b, 0, none⟩), .string ⟨k.toArray⟩] w fun e w' => ∃ a c N, e = .returned (.tuple #[.slice a f.data.length c, .int .i64 0]) ∧ BytesF (.slice a f.data.length c) f.data N ∧ Moves w w' [] N := by
  obtain ⟨m, om, l, Lf, rfl, ho, hf⟩ := hD
  have HT := Lib.hid (there_at b p pw m om l fs Lf [] k w ho hf hk hon (by rw [List.append_nil]; exact hL))
  have E1 : Hid (thereE fs k = 0) := by show _ = _; simp [thereE, hab]
  have HL := Lib.hid hL
  obtain ⟨v, f', A, B, C, hlk, hlf, ⟨dv, hv, hdv⟩, rfl, hput⟩ := (hf.look k).resolve_left (by rintro ⟨_, h, _⟩; rw [hab] at h; cases h)
  obtain rfl : f' = f := Option.some.inj (hlf.symm.trans hab)
  obtain ⟨da, dc, rfl⟩ := RowF.shape hdv
  have HD := Lib.hid hdv
  have hlk' : Hid ((lookM l k).getD zf = .agg #[.slice da f'.data.length dc, .int .i64 f'.kept]) := by show _ = _; rw [hlk, hv]; rfl
  have ho' := Lib.hid ho
  have HLEN := Lib.hid hlen
  clear ho hf hk hon hL hab hlf hdv hlk hv hput hlen
  go_enter Try.func22, Try.ntmps22
  go_wp2_with (fail)
  refine HT.out.mono ?_
  rintro e w2 ⟨rfl, hM⟩
  rw [E1.out]
  have M2 := Lib.hid hM
  have hL2 := M2.out.holds HL.out
  have d1 := (hL2.right (A := [_])).cell0 (o := 1) rfl
  have hlq : (Instr.lookup 68 (.map (some m)) (.string ⟨k.toArray⟩) false).run Try.prog w2 = .ok (.agg #[.slice da f'.data.length dc, .int .i64 f'.kept]) w2 := by
    rw [← hlk'.out]
    exact run_look (P := Try.prog) (w := w2) Try.underlying68 Try.underlying9 (hL2.get (List.mem_cons_of_mem _ (List.mem_cons_of_mem _ (List.mem_cons_self ..)))) ho'.out k (zeroFile _) false
  have HB := Lib.hid (BytesF.at HD.out (((hL2.right (A := [_, _, _])).right (A := A)).left))
  have hfd : ∀ w : World, (Instr.field 77 (.agg #[.slice da f'.data.length dc, .int .i64 f'.kept]) 0).run Try.prog w = .ok (.slice da f'.data.length dc) w := fun _ => by kernel_rfl
  clear hM hL2 HT
  go_wp2_with (fail)
  refine (clone_any _ f'.data _ HB.out HLEN.out).mono ?_
  rintro e w3 ⟨a, c, N, rfl, hN, hM⟩
  have M3 := Lib.hid (M2.out.call hM)
  go_wp2
  refine bodyPost_ret (v := .tuple #[.slice a f'.data.length c, .int .i64 0]) (by simp [results, Try.results22, go_sem]) rfl ⟨_, _, _, rfl, hN, ?_⟩
  have := M3.out
  rwa [List.append_nil] at this

end Go.Proofs.Ytdgjcmjbkmgohaa
