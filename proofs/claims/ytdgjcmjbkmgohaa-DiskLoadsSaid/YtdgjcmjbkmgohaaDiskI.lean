/- Edit. -/
import Derived.Test.YtdgjcmjbkmgohaaDiskH
namespace Go.Proofs.Ytdgjcmjbkmgohaa
open Go.RowKit Go.Sl

/-- m[k] = v, run. -/
theorem put_run {P : Program} {w : World} {T K E : TypeId} (hT : P.underlying T = some (.map K E)) (hK : P.underlying K = some .string) {b : Nat} {ob : Obj} (hH : w.heap[b]? = some ob) {l : List (List UInt8 × Value)} (ho : MapO l ob) (k : List UInt8) (v : Value) :
    ∃ w' o', (Instr.mapUpdate T (.map (some b)) (.string ⟨k.toArray⟩) v).run P w = .ok () w' ∧ MapO (putM l k v) o' ∧ Moves w w' [(b, ob)] [(b, o')] := by
  obtain ⟨o', hrun, ho'⟩ := run_putM (P := P) hT hK hH ho k v
  refine ⟨_, o', hrun, ho', (Moves.refl w [(b, ob)]).put ⟨rfl, rfl, rfl, by simp⟩ (fun hb => ?_) (fun k hk => ?_)⟩
  · have := (Array.getElem?_eq_some_iff.1 hb).1
    simp [this]
  · simp [Ne.symm hk]

set_option maxRecDepth 100000 in
set_option maxHeartbeats 1000000 in
theorem edit_full (b : Nat) (pv : Option Addr) (fs : List (List UInt8 × FileR)) (L : Frag) (k : List UInt8) (xa : Option Addr) (n xc : Nat) (w : World) (hD : DiskF b pv fs L) (hL : Holds w L) (hk : Named k) (hn : n ≤ 1048576) (hab : (lookF fs k).isSome = false) (h64 : 64 ≤ fs.length) :
    Calls Try.prog 24 #[.pointer (some ⟨b, 0, none⟩), .string ⟨k.toArray⟩, .slice xa n xc] w fun e w' => e = .returned (.int .i64 10) ∧ Moves w w' [] [] := by
  obtain ⟨m, om, l, Lf, rfl, ho, hf⟩ := hD
  have c1 := hL.cell0 (o := 1) rfl
  have HF := Lib.hid (full_any b m _ k l om _ (hL.cell0 rfl) c1 (hL.get (List.mem_cons_of_mem _ (List.mem_cons_self ..))) ho (hf.shape k))
  have e1 : (lookM l k).isSome = false := by rw [hf.isSome]; exact hab
  have e2 : decide (64 ≤ l.length) = true := by rw [hf.length]; simpa using h64
  have E1 := Lib.hid e1
  have E2 := Lib.hid e2
  have HK := Lib.hid hk
  clear ho hf hL e1 e2 hab h64 hk
  go_enter Try.func24, Try.ntmps24
  go_wp2_with (first
    | (go_at_call 37; refine (made_any b m _ c1).mono ?_; rintro e w' ⟨rfl, rfl⟩)
    | (go_at_call 39; refine (named_yes k _ HK.out).mono ?_; rintro e w' ⟨rfl, rfl⟩)
    | (go_at_call 34; refine HF.out.mono ?_; rintro e w' ⟨rfl, hM⟩; rw [E1.out, E2.out]; simp only [Bool.not_false, Bool.and_self]))
  go_ret
  exact ⟨rfl, hM⟩

set_option maxRecDepth 100000 in
set_option maxHeartbeats 2000000 in
theorem edit_ok (b : Nat) (pv : Option Addr) (fs : List (List UInt8 × FileR)) (L F : Frag) (k : List UInt8) (x : Value) (data : List UInt8) (w : World) (hD : DiskF b pv fs L) (hL : Holds w (L ++ F)) (hx : ∀ w', Holds w' F → BytesAt w' x data) (hk : Named k) (hn : data.length ≤ 1048576) (hab : (lookF fs k).isSome = true ∨ fs.length < 64) :
    Calls Try.prog 24 #[.pointer (some ⟨b, 0, none⟩), .string ⟨k.toArray⟩, x] w fun e w' => ∃ L', e = .returned (.int .i64 0) ∧ DiskF b pv (putF fs k ⟨data, data.length⟩) L' ∧ Moves w w' L L' := by
  obtain ⟨m, om, l, Lf, rfl, ho, hf⟩ := hD
  obtain ⟨xa, xc, rfl⟩ := shape_at (hx w hL.right)
  have c1 := hL.left.cell0 (o := 1) rfl
  have HF := Lib.hid (full_any b m _ k l om _ (hL.left.cell0 rfl) c1 (hL.left.get (List.mem_cons_of_mem _ (List.mem_cons_self ..))) ho (hf.shape k))
  have e1 : (!(lookM l k).isSome && decide (64 ≤ l.length)) = false := by
    rw [hf.isSome, hf.length]
    rcases hab with h | h
    · rw [h]; rfl
    · have : decide (64 ≤ fs.length) = false := by simp; omega
      rw [this]; simp
  have E1 := Lib.hid e1
  have HK := Lib.hid hk
  have HL := Lib.hid hL
  have HX := Lib.hid hx
  have HO := Lib.hid ho
  have HFI := Lib.hid hf
  have HNN := Lib.hid (show data.length ≤ 140737488355328 by omega)
  clear ho hf hL e1 hab hk hx
  go_enter Try.func24, Try.ntmps24
  go_upto_region 7 with (first
    | (go_at_call 37; refine (made_any b m _ c1).mono ?_; rintro e w' ⟨rfl, rfl⟩)
    | (go_at_call 39; refine (named_yes k _ HK.out).mono ?_; rintro e w' ⟨rfl, rfl⟩)
    | (go_at_call 34; refine HF.out.mono ?_; rintro e w2 ⟨rfl, hM⟩; rw [E1.out]))
  have M2 := Lib.hid ((Moves.refl w ((b, .cells #[.pointer pv, .map (some m)] 70 (0, 0)) :: (m, om) :: Lf)).call hM)
  have H2 := hM.holds HL.out
  have s1 := H2.left.cell0 (o := 1) rfl
  have hx2 := Lib.hid (HX.out w2.drew ((M2.out.drew.to _ HL.out).right))
  have HC := Lib.hid (clone_any _ data w2.drew hx2.out HNN.out)
  clear hM c1 H2
  go_region_held3 (fun w' => w'.cell? ⟨b, 1, none⟩ = some (.map (some m))) (first | exact s1 | exact s2 | exact s3) (first
    | (go_simp; go_at_call 38; refine HC.out.mono ?_; rintro e w3 ⟨ca, cc, N, rfl, hN, hM3⟩; have M3 := Lib.hid (M2.out.drew.call hM3); have s2 := (M3.out.to _ HL.out).left.right.cell0 (o := 1) rfl; obtain ⟨w4, o4, hput, ho4, hM4⟩ := put_run (P := Try.prog) Try.underlying68 Try.underlying9 ((M3.out.to _ HL.out).left.right.get (List.mem_cons_of_mem _ (List.mem_cons_self ..))) HO.out k (.agg #[.slice ca data.length cc, .int .i64 data.length]); have M4 := Lib.hid ((M3.out.reR (M' := [(m, om)] ++ ((b, .cells #[.pointer pv, .map (some m)] 70 (0, 0)) :: (N ++ Lf))) fun f g h0 hc ha => by simp only [h0, hc, ha]; omega).calls hM4); have s3 := (M4.out.to _ HL.out).left.right.cell0 (o := 1) rfl; clear hM3))
  all_goals
    go_wp2
    go_ret
    rcases HFI.out.look k with ⟨_, _, h3⟩ | ⟨v, f, A, B, C, _, _, hfv, rfl, h5⟩
    · have h6 := h3 (.agg #[.slice ca data.length cc, .int .i64 data.length]) ⟨data, data.length⟩ N ⟨_, rfl, hN⟩
      exact ⟨_, rfl, ⟨m, o4, _, _, rfl, ho4, h6⟩, M4.out.reR fun f g h0 hc ha => by simp only [h0, hc, ha]; omega⟩
    · have h6 := h5 (.agg #[.slice ca data.length cc, .int .i64 data.length]) ⟨data, data.length⟩ N ⟨_, rfl, hN⟩
      exact ⟨_, rfl, ⟨m, o4, _, _, rfl, ho4, h6⟩, (M4.out.reR (M' := B ++ ((b, .cells #[.pointer pv, .map (some m)] 70 (0, 0)) :: (m, o4) :: (A ++ (N ++ C)))) fun f g h0 hc ha => by simp only [h0, hc, ha]; omega).drop⟩

end Go.Proofs.Ytdgjcmjbkmgohaa
