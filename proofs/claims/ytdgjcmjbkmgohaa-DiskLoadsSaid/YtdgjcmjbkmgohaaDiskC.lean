/- full, act, New, Create. -/
import Derived.Test.YtdgjcmjbkmgohaaDiskB
namespace Go.Proofs.Ytdgjcmjbkmgohaa
open Go.RowKit Go.Sl

theorem FilesF.shape {l : List (List UInt8 × Value)} {fs : List (List UInt8 × FileR)} {L : Frag} (h : FilesF l fs L) (k : List UInt8) : ∀ v, lookM l k = some v → ∃ a c d n, v = .agg #[.slice a c d, .int .i64 n] := by
  intro v hv
  rcases h.look k with ⟨h1, _⟩ | ⟨v', f, A, B, C, h1, _, ⟨dv, h3, h4⟩, _⟩
  · rw [h1] at hv; cases hv
  · rw [h1] at hv
    obtain ⟨a, c, rfl⟩ := RowF.shape h4
    exact ⟨a, _, c, _, by rw [← Option.some.inj hv, h3]⟩
theorem FilesF.isSome {l : List (List UInt8 × Value)} {fs : List (List UInt8 × FileR)} {L : Frag} (h : FilesF l fs L) (k : List UInt8) : (lookM l k).isSome = (lookF fs k).isSome := by
  rcases h.look k with ⟨h1, h2, _⟩ | ⟨v', f, A, B, C, h1, h2, _⟩
  · rw [h1, h2]; rfl
  · rw [h1, h2]; rfl

theorem new_disk (pv : Option Addr) (w : World) : Calls Try.prog 17 #[.pointer pv] w fun e w' => ∃ b L, e = .returned (.pointer (some ⟨b, 0, none⟩)) ∧ DiskF b pv [] L ∧ Moves w w' [] L := by
  have hmm := @run_makeMap Try.prog
  go_enter Try.func17, Try.ntmps17
  go_wp2
  go_ret
  refine ⟨_, [(w.heap.size + 1, .cells #[.pointer pv, .map (some w.heap.size)] 70 (0, 0)), (w.heap.size, .map #[] 0)], rfl, ⟨_, _, [], [], rfl, mapO_new, rfl⟩, ?_⟩
  have := ((Moves.refl w []).alloc (.map #[] 0)).alloc (.cells #[.pointer pv, .map (some w.heap.size)] 70 (0, 0))
  simpa using this

set_option maxRecDepth 100000 in
set_option maxHeartbeats 1000000 in
theorem full_any (b m : Nat) (pv : Option Addr) (k : List UInt8) (l : List (List UInt8 × Value)) (om : Obj) (w : World) (c0 : w.cell? ⟨b, 0, none⟩ = some (.pointer pv)) (c1 : w.cell? ⟨b, 1, none⟩ = some (.map (some m)))
    (hm : w.heap[m]? = some om) (ho : MapO l om) (hv : ∀ v, lookM l k = some v → ∃ a c d n, v = .agg #[.slice a c d, .int .i64 n]) :
    Calls Try.prog 34 #[.pointer (some ⟨b, 0, none⟩), .string ⟨k.toArray⟩] w fun e w' => e = .returned (.bool (!(lookM l k).isSome && decide (64 ≤ l.length))) ∧ Moves w w' [] [] := by
  have lb := cell_lt c0
  have lm := (Array.getElem?_eq_some_iff.1 hm).1
  have hm' : ∀ o, (w.alloc o).heap[m]? = some om := fun o => by rw [Below.heap_alloc _ _ _ lm]; exact hm
  have hl1 : (Instr.lookup 68 (.map (some m)) (.string ⟨k.toArray⟩) true).run Try.prog w = .ok (.tuple #[(lookM l k).getD zf, .bool (lookM l k).isSome]) w :=
    run_look (P := Try.prog) (w := w) Try.underlying68 Try.underlying9 hm ho k (zeroFile _) true
  have hlen : ∀ o ty, (Builtin.len_ #[68] ty #[.map (some m)]).run Try.prog (w.alloc o) = .ok (goInt l.length) (w.alloc o) := fun o ty => run_lenM (P := Try.prog) Try.underlying68 (hm' o) ho ty
  obtain ⟨a, c, d, n, hd⟩ : ∃ a c d n, (lookM l k).getD zf = .agg #[.slice a c d, .int .i64 n] := by
    cases hlk : lookM l k with
    | none => exact ⟨_, _, _, _, rfl⟩
    | some v => exact hv v hlk
  rw [hd] at hl1
  clear hm ho hv hd hm'
  generalize hs : (lookM l k).isSome = s at *
  clear hs
  cases s
  all_goals
    go_enter Try.func34, Try.ntmps34
    go_wp2
    go_ret
    exact ⟨by first | (simp; done) | (simp; omega), (Moves.refl w []).waste _⟩

set_option maxHeartbeats 400000 in
theorem act_pl (p : Nat) (pw : Pw) (w : World) (hL : Holds w [(p, pw.obj)]) (h1 : -9223372036854775807 ≤ pw.left) (h2 : pw.left ≤ 9223372036854775807) :
    Calls Try.prog 35 #[.agg #[.pointer (some ⟨p, 0, none⟩)]] w fun e w' => e = .returned (.int .i64 pw.act.1) ∧ Moves w w' [(p, pw.obj)] [(p, pw.act.2.obj)] := by
  have HL := Lib.hid ((Moves.refl w [(p, pw.obj)]).waste (.cells #[.pointer (some ⟨p, 0, none⟩)] 67))
  have H2 := HL.out.here hL
  go_enter Try.func35, Try.ntmps35
  go_wp2_with (go_at_call 14; refine (act_any p pw _ H2 h1 h2).mono ?_; rintro e w' ⟨rfl, hM⟩)
  go_ret
  exact ⟨rfl, HL.out.trans hM⟩

/-- A power's numbers lie in range. -/
def Pw.ok (p : Pw) : Prop := -9223372036854775807 ≤ p.left ∧ p.left ≤ 9223372036854775807

theorem onIs_of {p : Nat} {pw : Pw} {w : World} (h : Holds w [(p, pw.obj)]) : OnIs (some ⟨p, 0, none⟩) pw.on w := on_any p pw w h

set_option maxRecDepth 100000 in
set_option maxHeartbeats 1000000 in
theorem create_down (b : Nat) (pv : Option Addr) (fs : List (List UInt8 × FileR)) (L : Frag) (k : List UInt8) (w : World) (hD : DiskF b pv fs L) (hL : Holds w L) (hk : Named k) (hon : ∀ o, OnIs pv false (w.alloc o)) :
    Calls Try.prog 18 #[.pointer (some ⟨b, 0, none⟩), .string ⟨k.toArray⟩] w fun e w' => e = .returned (.int .i64 8) ∧ Moves w w' [] [] := by
  obtain ⟨m, om, l, Lf, rfl, ho, hf⟩ := hD
  have H1 := fun o => (hL.alloc o).right (A := [_])
  have A1 := fun o => ask_one b m w.heap.size pv false k (w.alloc o) ((H1 o).cell0 rfl) ((H1 o).cell0 rfl) hk
  have HA : Hid (∀ w' : World, w' = w.alloc (.cells #[.string ⟨k.toArray⟩] 9) → Calls Try.prog 33 #[.pointer (some ⟨b, 0, none⟩), .slice (some ⟨w.heap.size, 0, none⟩) 1 1] w' fun e w' => e = .returned (.int .i64 8) ∧ w.alloc (.cells #[.string ⟨k.toArray⟩] 9) = w') := by
    show ∀ w' : World, _
    rintro w' rfl
    exact (A1 _ ((hL.alloc _).cell0 rfl) (hon _)).mono fun e w' ⟨he, hw⟩ => ⟨by rw [he]; rfl, hw⟩
  clear A1 hon H1 ho hf
  go_enter Try.func18, Try.ntmps18
  go_wp2_with (go_at_call 33; refine (HA.out _ rfl).mono ?_; rintro e w' ⟨rfl, rfl⟩)
  go_ret
  exact ⟨rfl, (Moves.refl w []).waste _⟩

/-- What Create makes of files. -/
theorem lenM_of {l : List (List UInt8 × Value)} {fs : List (List UInt8 × FileR)} {L : Frag} (h : FilesF l fs L) : l.length = fs.length := h.length

set_option maxRecDepth 100000 in
set_option maxHeartbeats 1000000 in
theorem create_full (b p : Nat) (pw : Pw) (fs : List (List UInt8 × FileR)) (L : Frag) (k : List UInt8) (w : World) (hD : DiskF b (some ⟨p, 0, none⟩) fs L) (hL : Holds w ((p, pw.obj) :: L)) (hk : Named k) (hon : pw.on = true) (hab : (lookF fs k).isSome = false) (h64 : 64 ≤ fs.length) :
    Calls Try.prog 18 #[.pointer (some ⟨b, 0, none⟩), .string ⟨k.toArray⟩] w fun e w' => e = .returned (.int .i64 10) ∧ Moves w w' [] [] := by
  obtain ⟨m, om, l, Lf, rfl, ho, hf⟩ := hD
  have H1 := hL.alloc (.cells #[.string ⟨k.toArray⟩] 9)
  have H2 := H1.right (A := [_, _])
  have HA := Lib.hid (ask_one b m w.heap.size _ true k _ (H2.cell0 rfl) (H2.cell0 rfl) hk (H1.cell0 rfl) (by rw [← hon]; exact onIs_of ((H1.right (A := [_])).left (A := [_]))))
  have HF := Lib.hid (full_any b m _ k l om _ (H2.cell0 rfl) (H2.cell0 rfl) (H2.get (List.mem_cons_of_mem _ (List.mem_cons_self ..))) ho (hf.shape k))
  have e1 : (lookM l k).isSome = false := by rw [hf.isSome]; exact hab
  have e2 : decide (64 ≤ l.length) = true := by rw [hf.length]; simpa using h64
  have E1 := Lib.hid e1
  have E2 := Lib.hid e2
  clear H1 H2 ho hf hL e1 e2 hab h64 hon hk
  go_enter Try.func18, Try.ntmps18
  go_wp2_with (first
    | (go_at_call 33; refine HA.out.mono ?_; rintro e w' ⟨rfl, rfl⟩; simp only [downE])
    | (go_at_call 34; refine HF.out.mono ?_; rintro e w' ⟨rfl, hM⟩; rw [E1.out, E2.out]; simp only [Bool.not_false, Bool.and_self]))
  go_ret
  exact ⟨rfl, ((Moves.refl w []).waste _).trans hM⟩

set_option maxRecDepth 100000 in
set_option maxHeartbeats 1000000 in
theorem create_ok (b p : Nat) (pw : Pw) (fs : List (List UInt8 × FileR)) (L : Frag) (k : List UInt8) (w : World) (hD : DiskF b (some ⟨p, 0, none⟩) fs L) (hL : Holds w ((p, pw.obj) :: L)) (hk : Named k) (hon : pw.on = true) (hab : (lookF fs k).isSome = true ∨ fs.length < 64)
    (hact : pw.act.1 = 0) (hok : pw.ok) :
    Calls Try.prog 18 #[.pointer (some ⟨b, 0, none⟩), .string ⟨k.toArray⟩] w fun e w' => ∃ L', e = .returned (.int .i64 0) ∧ DiskF b (some ⟨p, 0, none⟩) (putF fs k ⟨[], 0⟩) L' ∧ Moves w w' ((p, pw.obj) :: L) ((p, pw.act.2.obj) :: L') := by
  obtain ⟨m, om, l, Lf, rfl, ho, hf⟩ := hD
  have H1 := hL.alloc (.cells #[.string ⟨k.toArray⟩] 9)
  have H2 := H1.right (A := [_, _])
  have HA := Lib.hid (ask_one b m w.heap.size _ true k _ (H2.cell0 rfl) (H2.cell0 rfl) hk (H1.cell0 rfl) (by rw [← hon]; exact onIs_of ((H1.right (A := [_])).left (A := [_]))))
  have HF := Lib.hid (full_any b m _ k l om _ (H2.cell0 rfl) (H2.cell0 rfl) (H2.get (List.mem_cons_of_mem _ (List.mem_cons_self ..))) ho (hf.shape k))
  have e1 : (!(lookM l k).isSome && decide (64 ≤ l.length)) = false := by
    rw [hf.isSome, hf.length]
    rcases hab with h | h
    · rw [h]; rfl
    · have : decide (64 ≤ fs.length) = false := by simp; omega
      rw [this]; simp
  have E1 := Lib.hid e1
  have EA := Lib.hid hact
  have M1 := Lib.hid ((Moves.refl w ((p, pw.obj) :: (b, .cells #[.pointer (some ⟨p, 0, none⟩), .map (some m)] 70 (0, 0)) :: (m, om) :: Lf)).waste (.cells #[.string ⟨k.toArray⟩] 9))
  have HL := Lib.hid hL
  have HO := Lib.hid ho
  have HFI := Lib.hid hf
  clear H1 H2 ho hf hL e1 hab hon hk hact
  go_enter Try.func18, Try.ntmps18
  go_wp2_with (first
    | (go_at_call 33; refine HA.out.mono ?_; rintro e w' ⟨rfl, rfl⟩; simp only [downE])
    | (go_at_call 34; refine HF.out.mono ?_; rintro e w2 ⟨rfl, hM⟩; rw [E1.out]; have M2 := Lib.hid (M1.out.call hM); have d0 := ((M2.out.here HL.out).right (A := [_])).cell0 (o := 0) rfl; clear hM)
    | (go_at_call 35; refine (act_pl p pw _ ((M2.out.here HL.out).left (A := [_])) hok.1 hok.2).mono ?_; rintro e w3 ⟨rfl, hM⟩; rw [EA.out]; have M3 := Lib.hid (M2.out.calls (A := [_]) hM); have d1 := ((M3.out.here HL.out).right (A := [_])).cell0 (o := 1) rfl; clear hM)
    | (at_mapUpdate; refine wpList_put rfl (.tmp 28) (.tmp 29) (.tmp 30) 68 9 77 rfl Try.underlying68 Try.underlying9 m om _ rfl ((M3.out.here HL.out).right (A := [_, _])) l HO.out k rfl _ rfl ?_; intro w4 o4 ho4 hM4))
  go_ret
  rcases HFI.out.look k with ⟨_, _, h3⟩ | ⟨v, f, A, B, C, _, _, hfv, rfl, h5⟩
  · have h6 := h3 zf ⟨[], 0⟩ [] ⟨_, rfl, bytesF_nil⟩
    rw [List.append_nil] at h6
    refine ⟨_, rfl, ⟨m, o4, _, Lf, rfl, ho4, h6⟩, ?_⟩
    exact ((M3.out.reR (M' := [(m, om)] ++ ((p, pw.act.2.obj) :: (b, .cells #[.pointer (some ⟨p, 0, none⟩), .map (some m)] 70 (0, 0)) :: Lf)) fun f g h0 hc ha => by simp only [h0, hc, ha]; omega).calls hM4).reR fun f g h0 hc ha => by simp only [h0, hc, ha]; omega
  · have h6 := h5 zf ⟨[], 0⟩ [] ⟨_, rfl, bytesF_nil⟩
    refine ⟨_, rfl, ⟨m, o4, _, _, rfl, ho4, h6⟩, ?_⟩
    exact (((M3.out.reR (M' := [(m, om)] ++ ((p, pw.act.2.obj) :: (b, .cells #[.pointer (some ⟨p, 0, none⟩), .map (some m)] 70 (0, 0)) :: (A ++ (B ++ C)))) fun f g h0 hc ha => by simp only [h0, hc, ha]; omega).calls hM4).reR (M' := B ++ ((p, pw.act.2.obj) :: (b, .cells #[.pointer (some ⟨p, 0, none⟩), .map (some m)] 70 (0, 0)) :: (m, o4) :: (A ++ ([] ++ C)))) fun f g h0 hc ha => by simp only [h0, hc, ha]; omega).drop

end Go.Proofs.Ytdgjcmjbkmgohaa
