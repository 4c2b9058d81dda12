/- New, of the program and of the document. -/
import Derived.Test.YtfigfkfjcjkdiaaWireF
import Derived.Laws.MakeOwn
namespace Go.Proofs.Ytfigfkfjcjkdiaa
open Go.RowKit Go.Sl Go.Conc

theorem infoWay : (Try.prog.info? 61).map (fun i => (i.zero, i.size, i.bytes)) = some (some (.agg #[.slice none 0 0, .int .i64 0]), 2, 32) := by kernel_rfl
theorem infoLane : (Try.prog.info? 53).map (fun i => (i.zero, i.size, i.bytes)) = some (some (.agg #[.chan none, .slice none 0 0]), 2, 32) := by kernel_rfl

/-- No such net. -/
def NoNet (n : Int) : Prop := n < 1 ∨ (1 ≤ n ∧ 64 < n)

theorem new_out (n : Int) (w : World) (h : NoNet n) : Calls Try.prog 4 #[.int .i64 n] w fun e w' => e = .returned (.pointer none) ∧ w = w' := by
  rcases h with h | ⟨h0, h⟩
  all_goals
    go_enter Try.func4, Try.ntmps4
    go_wp2
    go_ret
    exact ⟨rfl, rfl⟩
theorem rnew_out (n : Int) (w : World) (h : NoNet n) : Calls Try.prog 5 #[.int .i64 n] w fun e w' => e = .returned (.pointer none) ∧ w = w' := by
  rcases h with h | ⟨h0, h⟩
  all_goals
    go_enter Try.func5, Try.ntmps5
    go_wp2
    go_ret
    exact ⟨rfl, rfl⟩

theorem pairs_of {R : Value → Value → Lane → Frag → Prop} {c b : Value} {s : Lane} (h : R c b s []) (n : Nat) : ∀ (xs : List Value), xs.length = n * 2 → (∀ k, k < n → xs[2 * k]? = some c) → (∀ k, k < n → xs[2 * k + 1]? = some b) → PairsF R xs (List.replicate n s) [] := by
  induction n with
  | zero => intro xs hl _ _; obtain rfl : xs = [] := List.eq_nil_of_length_eq_zero (by simpa using hl); rfl
  | succ n ih =>
    intro xs hl h0 h1
    match xs, hl, h0, h1 with
    | [], hl, _, _ => simp at hl
    | [_], hl, _, _ => simp at hl; omega
    | x :: y :: r, hl, h0, h1 =>
      have e0 := h0 0 (by omega)
      have e1 := h1 0 (by omega)
      simp at e0 e1
      subst e0 e1
      refine ⟨[], [], h, ih r (by simp at hl; omega) (fun k hk => ?_) (fun k hk => ?_), rfl⟩
      · have := h0 (k + 1) (by omega)
        rw [show 2 * (k + 1) = 2 * k + 1 + 1 by omega] at this
        simpa using this
      · have := h1 (k + 1) (by omega)
        rw [show 2 * (k + 1) + 1 = 2 * k + 1 + 1 + 1 by omega] at this
        simpa using this

theorem made2 (a b : Value) (n k : Nat) (hk : k < n) : (madeCells #[a, b] (n * 2)).toList[2 * k]? = some a ∧ (madeCells #[a, b] (n * 2)).toList[2 * k + 1]? = some b := by
  have h1 : 2 * k < n * 2 := by omega
  have h2 : 2 * k + 1 < n * 2 := by omega
  constructor
  · simp [madeCells, h1]
  · simp [madeCells, h2, Nat.add_mod]

set_option maxHeartbeats 400000 in
theorem rnew_in (n : Nat) (w : World) (h1 : 1 ≤ n) (h2 : n ≤ 64) : Calls Try.prog 5 #[.int .i64 n] w fun e w' => ∃ b L, e = .returned (.pointer (some ⟨b, 0, none⟩)) ∧ RefF (.pointer (some ⟨b, 0, none⟩)) (List.replicate n ⟨[], 0⟩) L ∧ Moves w w' [] L := by
  obtain ⟨i0, hi, hz0, hz1, hz2⟩ := info_parts infoWay
  have hmk := fun u : World => run_make (P := Try.prog) u 54 61 i0 (.agg #[.slice none 0 0, .int .i64 0]) Try.underlying54 hi hz0 .i64 .i64 (n : Int) (n : Int) (by omega) (Int.le_refl _) (by rw [hz2]; omega) (by omega)
  have e1 : (n : Int).toNat = n := by omega
  rw [hz1, e1] at hmk
  go_enter Try.func5, Try.ntmps5
  go_wp2
  go_ret
  refine ⟨_, [(w.heap.size + 1, .cells #[.slice (some ⟨w.heap.size, 0, none⟩) n n] 56 (0, 0)), (w.heap.size, .cells (madeCells #[.slice none 0 0, .int .i64 0] (n * 2)) 61 (0, 0))], rfl, ⟨w.heap.size + 1, w.heap.size, n, madeCells #[.slice none 0 0, .int .i64 0] (n * 2), [], rfl, by simp, by unfold maxLen; omega, by simp [madeCells], ?_, by simpa using h1, by simpa using h2, by simp⟩, ?_⟩
  · have hl : (madeCells #[.slice none 0 0, .int .i64 0] (n * 2)).toList.length = n * 2 := by simp [madeCells]
    rw [List.length_replicate, List.take_of_length_le (by omega)]
    refine pairs_of (R := WayF) (s := ⟨[], 0⟩) ⟨[], [], [], rfl, ⟨rfl, .inl ⟨rfl, rfl, rfl⟩⟩, rfl, Nat.le_refl _, by simp, rfl⟩ n _ hl (fun k hk => (made2 _ _ n k hk).1) (fun k hk => (made2 _ _ n k hk).2)
  · simpa using (((Moves.refl w []).alloc _).alloc _)

set_option maxHeartbeats 1000000 in
theorem new_in (n : Nat) (w : World) (h1 : 1 ≤ n) (h2 : n ≤ 64) : Calls Try.prog 4 #[.int .i64 n] w fun e w' => ∃ b L, e = .returned (.pointer (some ⟨b, 0, none⟩)) ∧ WireF (.pointer (some ⟨b, 0, none⟩)) (List.replicate n ⟨[], 0⟩) L ∧ Moves w w' [] L := by
  obtain ⟨i0, hi, hz0, hz1, hz2⟩ := info_parts infoLane
  obtain ⟨i1, hi1, _, _, hz3⟩ := info_parts infoSl
  have hmc : ∀ u : World, (Instr.makeChan 50 (.int .i64 200)).run Try.prog u = .ok (.chan (some u.heap.size)) (u.alloc (.chan 200 #[] false 0 0 false)) := fun u => by
    simpa using run_makeChan (P := Try.prog) (w := u) Try.underlying50 hi1 .i64 200 (by omega) (by rw [hz3]; omega)
  go_enter Try.func4, Try.ntmps4
  go_wp2
  go_loopw [13] (fun i wr => ∃ (k : Nat) (lv : Value) (xs : List Value) (La Ll : Frag), k ≤ n ∧ i = .int .i64 k ∧ RowF 53 2 lv k xs La ∧ PairsF LaneF xs (List.replicate k ⟨[], 0⟩) Ll ∧ Moves w wr [] ((w.heap.size, .cells #[lv] 49 (0, 0)) :: (La ++ Ll))) (fun i _ => n - (intOf i).toNat)
  case atStart => exact ⟨0, _, [], [], [], Nat.zero_le _, rfl, ⟨rfl, .inl ⟨rfl, rfl, rfl⟩⟩, rfl, (Moves.refl w []).alloc _⟩
  case round =>
    obtain ⟨k, lv, xs, La, Ll, hk, rfl, hF, hP, hM⟩ := hrel
    obtain ⟨a, c, rfl⟩ := RowF.shape hF
    have hH := hM.to [] (Holds.nil w)
    have e0 := hH.cell0 (o := 0) rfl
    have f0 := hH.free0 0
    have l0 := hH.lt0
    have HM := Lib.hid hM
    have HF := Lib.hid hF
    have HP := Lib.hid hP
    clear hM hF hP hH
    by_cases hlt : k < n
    · go_upto_region 6 with (fail)
      go_region_law (first
        | (refine step_append_R rfl (.tmp 19) (.tmp 22) 47 rfl 53 i0 (.agg #[.chan none, .slice none 0 0]) 2 32 Try.underlying47 hi hz0 hz1 hz2 rfl _ k xs La rfl HF.out ?_ _ 1 [.chan (some wr.heap.size), .slice none 0 0] rfl rfl (rowAt_new' (wr.alloc (.chan 200 #[] false 0 0 false)) #[.chan (some wr.heap.size), .slice none 0 0] 53 1 (wr.heap.size + 1) (by unfold maxLen; omega) (by simp)).drew ?_ ?_ ?_ ?_; exact ((((((HM.out.alloc _).waste _).drew).to [] (Holds.nil w)).left).right (A := [_, _])).left; (intro u hu; simp at hu; rcases hu with rfl | rfl <;> rfl); omega; omega; intro v3 w4 L3 hF3 hM4 _; obtain ⟨va3, vc3, e7⟩ := RowF.shape hF3; subst e7; have M5 := Lib.hid (((((HM.out.alloc (.chan 200 #[] false 0 0 false)).waste (.cells #[.chan (some wr.heap.size), .slice none 0 0] 53)).drew).reR (M' := La ++ ((w.heap.size, .cells #[.slice a k c] 49 (0, 0)) :: (wr.heap.size, .chan 200 #[] false 0 0 false) :: Ll)) fun f g h0 hc ha => by simp only [hc, ha]; omega).calls hM4); clear hM4; have e5 := (M5.out.to [] (Holds.nil w)).cell (o := 0) (List.mem_append_left _ (List.mem_append_right _ (List.mem_cons_self ..))) rfl; have f5 := (M5.out.to [] (Holds.nil w)).free (List.mem_append_left _ (List.mem_append_right _ (List.mem_cons_self ..))) 0))
      all_goals
        go_wp2
        go_roundw
        case rel =>
          refine ⟨k + 1, _, _, L3, Ll ++ [(wr.heap.size, .chan 200 #[] false 0 0 false)], by omega, by go_num, hF3, ?_, ?_⟩
          · rw [List.replicate_succ']
            exact HP.out.snoc ⟨_, #[], 0, 0, [], [], [], [], rfl, rfl, ⟨rfl, .inl ⟨rfl, rfl, rfl⟩⟩, rfl, Nat.le_refl _, by simp, rfl⟩
          · exact ((M5.out.reR (M' := (w.heap.size, .cells #[.slice a k c] 49 (0, 0)) :: (L3 ++ (Ll ++ [(wr.heap.size, .chan 200 #[] false 0 0 false)]))) fun f g h0 hc ha => by simp only [h0, hc, ha]; omega).setCell 0 _)
        case measure => simp [intOf]; omega
    · go_wp2
      go_ret
      have hkn : k = n := by omega
      subst hkn
      obtain ⟨h1', ⟨h2', _⟩ | ⟨g, cap, cur, e1, rfl, e3, e4, e5, e6⟩⟩ := HF.out
      · exfalso
        injection h2' with _ h3 _
        omega
      · injection e1 with e1 _ e2
        subst e1 e2
        refine ⟨_, _, rfl, ⟨w.heap.size, g, _, cur, Ll, rfl, by simpa using e3, e4, e5, ?_, by simpa using h1, by simpa using h2, rfl⟩, ?_⟩
        · rw [List.length_replicate, e6]; exact HP.out
        · have := HM.out
          rw [List.length_replicate]
          exact this

end Go.Proofs.Ytfigfkfjcjkdiaa
