/- Append. -/
import Derived.Test.YtdgjcmjbkmgohaaDiskC
namespace Go.Proofs.Ytdgjcmjbkmgohaa
open Go.RowKit Go.Sl

theorem shape_at {w : World} {x : Value} {l : List UInt8} (h : BytesAt w x l) : ∃ a c, x = .slice a l.length c := by
  rcases h with ⟨h1, h2, _⟩ | ⟨b', cap', h1, _⟩
  · exact ⟨none, 0, by rw [h1, h2]⟩
  · exact ⟨_, _, h1⟩

/-- 'there' of a disk whose power is on, behind the names' row. -/
theorem there_at (b p : Nat) (pw : Pw) (m : Nat) (om : Obj) (l : List (List UInt8 × Value)) (fs : List (List UInt8 × FileR)) (Lf F : Frag) (k : List UInt8) (w : World) (ho : MapO l om) (hf : FilesF l fs Lf) (hk : Named k) (hon : pw.on = true)
    (hL : Holds w ((p, pw.obj) :: (b, .cells #[.pointer (some ⟨p, 0, none⟩), .map (some m)] 70 (0, 0)) :: (m, om) :: (Lf ++ F))) :
    Calls Try.prog 36 #[.pointer (some ⟨b, 0, none⟩), .slice (some ⟨w.heap.size, 0, none⟩) 1 1] (w.alloc (.cells #[.string ⟨k.toArray⟩] 9)) fun e w' => e = .returned (.int .i64 (thereE fs k)) ∧ Moves w w' [] [] := by
  have H1 := hL.alloc (.cells #[.string ⟨k.toArray⟩] 9)
  have H2 := H1.right (A := [_, _])
  refine (there_on b m w.heap.size _ k l om _ (H2.cell0 rfl) (H2.cell0 rfl) hk (H1.cell0 rfl) (by rw [← hon]; exact onIs_of ((H1.right (A := [_])).left (A := [_]))) (H2.get (List.mem_cons_of_mem _ (List.mem_cons_self ..))) ho (hf.shape k)).mono ?_
  rintro e w' ⟨rfl, hM⟩
  rw [hf.isSome]
  exact ⟨rfl, ((Moves.refl w []).waste _).trans hM⟩

set_option maxRecDepth 100000 in
set_option maxHeartbeats 1000000 in
theorem append_none (b p : Nat) (pw : Pw) (fs : List (List UInt8 × FileR)) (L : Frag) (k : List UInt8) (x : Value) (w : World) (hD : DiskF b (some ⟨p, 0, none⟩) fs L) (hL : Holds w ((p, pw.obj) :: L)) (hk : Named k) (hon : pw.on = true) (hab : lookF fs k = none) :
    Calls Try.prog 19 #[.pointer (some ⟨b, 0, none⟩), .string ⟨k.toArray⟩, x] w fun e w' => e = .returned (.int .i64 9) ∧ Moves w w' [] [] := by
  obtain ⟨m, om, l, Lf, rfl, ho, hf⟩ := hD
  have HT := Lib.hid (there_at b p pw m om l fs Lf [] k w ho hf hk hon (by rw [List.append_nil]; exact hL))
  have E1 : Hid (thereE fs k = 9) := by show _ = _; simp [thereE, hab]
  clear ho hf hk hon hL hab
  go_enter Try.func19, Try.ntmps19
  go_wp2_with (go_at_call 36; refine HT.out.mono ?_; rintro e w2 ⟨rfl, hM⟩; rw [E1.out])
  go_ret
  exact ⟨rfl, hM⟩

set_option maxRecDepth 100000 in
set_option maxHeartbeats 1000000 in
theorem append_off (b p : Nat) (pw : Pw) (fs : List (List UInt8 × FileR)) (L : Frag) (k : List UInt8) (f : FileR) (xa : Option Addr) (n xc : Nat) (w : World) (hD : DiskF b (some ⟨p, 0, none⟩) fs L) (hL : Holds w ((p, pw.obj) :: L)) (hk : Named k) (hon : pw.on = true) (hab : lookF fs k = some f)
    (hlen : f.data.length + n ≤ 1048576) (hact : pw.act.1 = 8) (hok : pw.ok) :
    Calls Try.prog 19 #[.pointer (some ⟨b, 0, none⟩), .string ⟨k.toArray⟩, .slice xa n xc] w fun e w' => e = .returned (.int .i64 8) ∧ Moves w w' ((p, pw.obj) :: L) ((p, pw.act.2.obj) :: L) := by
  obtain ⟨m, om, l, Lf, rfl, ho, hf⟩ := hD
  have HT := Lib.hid (there_at b p pw m om l fs Lf [] k w ho hf hk hon (by rw [List.append_nil]; exact hL))
  have E1 : Hid (thereE fs k = 0) := by show _ = _; simp [thereE, hab]
  have EA := Lib.hid hact
  have HL := Lib.hid hL
  obtain ⟨v, f', A, B, C, hlk, hlf, ⟨dv, hv, hdv⟩, hLf, _⟩ := (hf.look k).resolve_left (by rintro ⟨_, h, _⟩; rw [hab] at h; cases h)
  obtain rfl : f' = f := Option.some.inj (hlf.symm.trans hab)
  obtain ⟨da, dc, rfl⟩ := RowF.shape hdv
  have hlk' : Hid ((lookM l k).getD zf = .agg #[.slice da f'.data.length dc, .int .i64 f'.kept]) := by show _ = _; rw [hlk, hv]; rfl
  have ho' := Lib.hid ho
  have M0 := Lib.hid (Moves.refl w ((p, pw.obj) :: (b, .cells #[.pointer (some ⟨p, 0, none⟩), .map (some m)] 70 (0, 0)) :: (m, om) :: Lf))
  have hl1 : (f'.data.length : Int) ≤ 1048576 := by omega
  have hl2 : (n : Int) ≤ 1048576 - (f'.data.length : Int) := by omega
  clear ho hf hk hon hL hab hlf hdv hLf hlk hv hact
  go_enter Try.func19, Try.ntmps19
  go_wp2_with (fail)
  refine HT.out.mono ?_
  rintro e w2 ⟨rfl, hM⟩
  rw [E1.out]
  have M2 := Lib.hid (M0.out.call hM)
  have hL2 := M2.out.here HL.out
  have hlq : (Instr.lookup 68 (.map (some m)) (.string ⟨k.toArray⟩) false).run Try.prog w2 = .ok (.agg #[.slice da f'.data.length dc, .int .i64 f'.kept]) w2 := by
    rw [← hlk'.out]
    exact run_look (P := Try.prog) (w := w2) Try.underlying68 Try.underlying9 (hL2.get (List.mem_cons_of_mem _ (List.mem_cons_of_mem _ (List.mem_cons_self ..)))) ho'.out k (zeroFile _) false
  have d1 := (hL2.right (A := [_])).cell0 (o := 1) rfl
  have d0 := (hL2.right (A := [_])).cell0 (o := 0) rfl
  have lb := cell_lt d1
  have M3 := Lib.hid (M2.out.waste (.cells #[.slice da f'.data.length dc, .int .i64 f'.kept] 77))
  clear hM hL2
  go_wp2_with (go_at_call 35; refine (act_pl p pw _ ((M3.out.here HL.out).left (A := [_])) hok.1 hok.2).mono ?_; rintro e w3 ⟨rfl, hM⟩; rw [EA.out]; have M4 := Lib.hid (M3.out.calls (A := [_]) hM); clear hM)
  go_ret
  exact ⟨rfl, M4.out⟩


set_option maxRecDepth 100000 in
set_option maxHeartbeats 2000000 in
theorem append_ok (b p : Nat) (pw : Pw) (fs : List (List UInt8 × FileR)) (L F : Frag) (k : List UInt8) (f : FileR) (x : Value) (data : List UInt8) (w : World) (hD : DiskF b (some ⟨p, 0, none⟩) fs L) (hL : Holds w (((p, pw.obj) :: L) ++ F)) (hx : ∀ w', Holds w' F → BytesAt w' x data) (hk : Named k) (hon : pw.on = true) (hab : lookF fs k = some f)
    (hlen : f.data.length + data.length ≤ 1048576) (hact : pw.act.1 = 0) (hok : pw.ok) :
    Calls Try.prog 19 #[.pointer (some ⟨b, 0, none⟩), .string ⟨k.toArray⟩, x] w fun e w' => ∃ L', e = .returned (.int .i64 0) ∧ DiskF b (some ⟨p, 0, none⟩) (putF fs k ⟨f.data ++ data, f.kept⟩) L' ∧ Moves w w' ((p, pw.obj) :: L) ((p, pw.act.2.obj) :: L') := by
  obtain ⟨i0, hi, hz0, hz1, hz2⟩ := info_parts infoU8
  obtain ⟨m, om, l, Lf, rfl, ho, hf⟩ := hD
  obtain ⟨xa, xc, rfl⟩ := shape_at (hx w hL.right)
  have HT := Lib.hid (there_at b p pw m om l fs Lf [] k w ho hf hk hon (by rw [List.append_nil]; exact hL.left))
  have E1 : Hid (thereE fs k = 0) := by show _ = _; simp [thereE, hab]
  have EA := Lib.hid hact
  have HL := Lib.hid hL
  have HX := Lib.hid hx
  obtain ⟨v, f', A, B, C, hlk, hlf, ⟨dv, hv, hdv⟩, rfl, hput⟩ := (hf.look k).resolve_left (by rintro ⟨_, h, _⟩; rw [hab] at h; cases h)
  obtain rfl : f' = f := Option.some.inj (hlf.symm.trans hab)
  obtain ⟨da, dc, rfl⟩ := RowF.shape hdv
  have HD := Lib.hid hdv
  have HP := Lib.hid hput
  have hlk' : Hid ((lookM l k).getD zf = .agg #[.slice da f'.data.length dc, .int .i64 f'.kept]) := by show _ = _; rw [hlk, hv]; rfl
  have ho' := Lib.hid ho
  have M0 := Lib.hid (Moves.refl w ((p, pw.obj) :: (b, .cells #[.pointer (some ⟨p, 0, none⟩), .map (some m)] 70 (0, 0)) :: (m, om) :: (A ++ (B ++ C))))
  have hl1 : (f'.data.length : Int) ≤ 1048576 := by omega
  have hl2 : (data.length : Int) ≤ 1048576 - (f'.data.length : Int) := by omega
  have HLEN := Lib.hid hlen
  clear ho hf hk hon hL hab hlf hdv hlk hv hact hput hx hlen
  go_enter Try.func19, Try.ntmps19
  go_wp2_with (fail)
  refine HT.out.mono ?_
  rintro e w2 ⟨rfl, hM⟩
  rw [E1.out]
  have M2 := Lib.hid (M0.out.call hM)
  have hL2 := (M2.out.to _ HL.out).left
  have hlq : (Instr.lookup 68 (.map (some m)) (.string ⟨k.toArray⟩) false).run Try.prog w2 = .ok (.agg #[.slice da f'.data.length dc, .int .i64 f'.kept]) w2 := by
    rw [← hlk'.out]
    exact run_look (P := Try.prog) (w := w2) Try.underlying68 Try.underlying9 (hL2.get (List.mem_cons_of_mem _ (List.mem_cons_of_mem _ (List.mem_cons_self ..)))) ho'.out k (zeroFile _) false
  have d1 := (hL2.right (A := [_])).cell0 (o := 1) rfl
  have d0 := (hL2.right (A := [_])).cell0 (o := 0) rfl
  have lb := cell_lt d1
  have M3 := Lib.hid (M2.out.alloc (.cells #[.slice da f'.data.length dc, .int .i64 f'.kept] 77))
  clear hM hL2 M2 M0 HT
  go_upto_region 5 with (fail)
  obtain ⟨wa, hwa⟩ : ∃ wa, wa = w2.alloc (.cells #[.slice da f'.data.length dc, .int .i64 f'.kept] 77) := ⟨_, rfl⟩
  rw [← hwa] at M3 ⊢
  obtain ⟨Bx, hBx⟩ : ∃ Bx, Bx = w2.heap.size := ⟨_, rfl⟩
  rw [← hBx] at M3 ⊢
  clear hwa hBx hlq d1 d0 lb
  have H3 := (M3.out.to _ HL.out).left
  have b0 := H3.cell0 (o := 0) rfl
  have d0 := (H3.right (A := [_, _])).cell0 (o := 0) rfl
  have G1 := Lib.hid (H3.right (A := [_]) |>.left (A := [_]))
  clear H3
  go_wp2_with (fail)
  refine (act_pl p pw _ G1.out hok.1 hok.2).mono ?_
  rintro e w3 ⟨rfl, hM⟩
  rw [EA.out]
  have M4 := Lib.hid ((M3.out.reR (M' := [(p, pw.obj)] ++ ((Bx, .cells #[.slice da f'.data.length dc, .int .i64 f'.kept] 77 (0, 0)) :: (b, .cells #[.pointer (some ⟨p, 0, none⟩), .map (some m)] 70 (0, 0)) :: (m, om) :: (A ++ (B ++ C)))) fun f g h0 hc ha => by simp only [h0, hc, ha]; omega).calls hM)
  clear hM M3 b0 d0 G1
  have H4 := (M4.out.to _ HL.out).left
  have b0 := (H4.right (A := [_])).cell0 (o := 0) rfl
  have G1 := Lib.hid ((((H4.right (A := [_, _, _, _])).right (A := A)).left))
  have hx4 := HX.out w3 (M4.out.to _ HL.out).right
  clear H4
  go_wp2_with (at_builtin; refine wpList_append_R rfl (.tmp 39) (.tmp 40) 39 rfl 5 i0 (.int .u8 0) 1 1 Try.underlying39 hi hz0 hz1 hz2 rfl _ f'.data.length (bs f'.data) B rfl HD.out G1.out _ data.length (bs data) rfl (by simp) hx4 (bs_one data) (by omega) (by omega) ?_; intro v5 w5 B5 hF5 hM5 _; obtain ⟨va5, vc5, rfl⟩ := RowF.shape hF5; have M5 := Lib.hid ((M4.out.reR (M' := B ++ ((Bx, .cells #[.slice da f'.data.length dc, .int .i64 f'.kept] 77 (0, 0)) :: (p, pw.act.2.obj) :: (b, .cells #[.pointer (some ⟨p, 0, none⟩), .map (some m)] 70 (0, 0)) :: (m, om) :: (A ++ C))) fun f g h0 hc ha => by simp only [h0, hc, ha]; omega).calls hM5); have H5 := ((M5.out.to _ HL.out).left.right); have b0 := H5.cell0 (o := 0) rfl; have fz0 := H5.free0 0; have lb := H5.lt0; have b1 := H5.cell0 (o := 1) rfl; have d0 := (H5.right (A := [_, _])).cell0 (o := 0) rfl; have d1 := (H5.right (A := [_, _])).cell0 (o := 1) rfl; have ld := cell_lt d1; clear H5 hM5 hx4)
  have M6 : Hid (Moves w (w5.setCell ⟨Bx, 0, none⟩ (.slice va5 (f'.data.length + data.length) vc5)) ((p, pw.obj) :: (b, .cells #[.pointer (some ⟨p, 0, none⟩), .map (some m)] 70 (0, 0)) :: (m, om) :: (A ++ (B ++ C))) ((Bx, .cells #[.slice va5 (f'.data.length + data.length) vc5, .int .i64 f'.kept] 77 (0, 0)) :: (b, .cells #[.pointer (some ⟨p, 0, none⟩), .map (some m)] 70 (0, 0)) :: (p, pw.act.2.obj) :: (m, om) :: (A ++ (B5 ++ C)))) := Lib.hid (((M5.out.reR (M' := (Bx, .cells #[.slice da f'.data.length dc, .int .i64 f'.kept] 77 (0, 0)) :: (b, .cells #[.pointer (some ⟨p, 0, none⟩), .map (some m)] 70 (0, 0)) :: (p, pw.act.2.obj) :: (m, om) :: (A ++ (B5 ++ C))) fun f g h0 hc ha => by simp only [hc, ha]; omega).setCell 0 (.slice va5 (f'.data.length + data.length) vc5)))
  clear M5 M4 b0 b1 d0 d1 ld fz0
  obtain ⟨w6, hw6⟩ : ∃ w6, w6 = w5.setCell ⟨Bx, 0, none⟩ (.slice va5 (f'.data.length + data.length) vc5) := ⟨_, rfl⟩
  rw [← hw6] at M6 ⊢
  have H6 := (M6.out.to _ HL.out).left
  have b0 := H6.cell0 (o := 0) rfl
  have b1 := H6.cell0 (o := 1) rfl
  have d1 := H6.cell1 (o := 1) rfl
  have lb := H6.lt0
  clear hw6
  refine wp_still_tail 6 (by kernel_rfl) (by kernel_rfl) ?_
  simp only [List.take_succ_cons, List.take_zero, List.drop_succ_cons, List.drop_zero]
  repeat still_step
  refine wpStill_nil ?_
  go_wp2_with (at_mapUpdate; refine wpList_put rfl (.tmp 46) (.tmp 47) (.tmp 48) 68 9 77 rfl Try.underlying68 Try.underlying9 m om (((Bx, .cells #[.slice va5 (f'.data.length + data.length) vc5, .int .i64 f'.kept] 77 (0, 0)) :: (b, .cells #[.pointer (some ⟨p, 0, none⟩), .map (some m)] 70 (0, 0)) :: (p, pw.act.2.obj) :: (A ++ (B5 ++ C)))) rfl (H6.re fun f g h0 hc ha => by simp only [hc, ha]; omega) l ho'.out k rfl _ rfl ?_; intro w7 o7 ho7 hM7)
  go_ret
  have h6 := HP.out (.agg #[.slice va5 (f'.data.length + data.length) vc5, .int .i64 f'.kept]) ⟨f'.data ++ data, f'.kept⟩ B5 ⟨_, rfl, by unfold BytesF; rw [bs_append, List.length_append]; exact hF5⟩
  refine ⟨_, rfl, ⟨m, o7, _, _, rfl, ho7, h6⟩, ?_⟩
  exact (((M6.out.drew.reR (M' := [(m, om)] ++ ((Bx, .cells #[.slice va5 (f'.data.length + data.length) vc5, .int .i64 f'.kept] 77 (0, 0)) :: (b, .cells #[.pointer (some ⟨p, 0, none⟩), .map (some m)] 70 (0, 0)) :: (p, pw.act.2.obj) :: (A ++ (B5 ++ C)))) fun f g h0 hc ha => by simp only [h0, hc, ha]; omega).calls hM7).reR (M' := [(Bx, .cells #[.slice va5 (f'.data.length + data.length) vc5, .int .i64 f'.kept] 77 (0, 0))] ++ ((p, pw.act.2.obj) :: (b, .cells #[.pointer (some ⟨p, 0, none⟩), .map (some m)] 70 (0, 0)) :: (m, o7) :: (A ++ (B5 ++ C)))) fun f g h0 hc ha => by simp only [h0, hc, ha]; omega).drop

end Go.Proofs.Ytdgjcmjbkmgohaa
