/- The calls of both nets, each in one contract. -/
import Derived.Test.YtfigfkfjcjkdiaaWireH
import Derived.Test.YtfigfkfjcjkdiaaWireE
namespace Go.Proofs.Ytfigfkfjcjkdiaa
open Go.RowKit Go.Sl Go.Conc

def nextS (ss : List Lane) (way : Int) : List UInt8 × Int × List Lane :=
  if h : 0 ≤ way ∧ way.toNat < ss.length then
    if h2 : (ss[way.toNat]'h.2).gone < (ss[way.toNat]'h.2).bag.length then
      ((ss[way.toNat]'h.2).bag[(ss[way.toNat]'h.2).gone], 0, ss.set way.toNat { ss[way.toNat]'h.2 with gone := (ss[way.toNat]'h.2).gone + 1 })
    else ([], 9, ss)
  else ([], 1, ss)
def pickS (ss : List Lane) (way at_ : Int) : List UInt8 × Int :=
  if h : 0 ≤ way ∧ way.toNat < ss.length then
    if h2 : 0 ≤ at_ ∧ at_.toNat < (ss[way.toNat]'h.2).bag.length then ((ss[way.toNat]'h.2).bag[at_.toNat]'h2.2, 0) else ([], 9)
  else ([], 1)
def sendS (ss : List Lane) (way : Int) (l : List UInt8) : Int × List Lane :=
  if h : 0 ≤ way ∧ way.toNat < ss.length then
    if (ss[way.toNat]'h.2).bag.length < 200 then (0, ss.set way.toNat { ss[way.toNat]'h.2 with bag := (ss[way.toNat]'h.2).bag ++ [l] }) else (10, ss)
  else (1, ss)
def cntS (ss : List Lane) (way : Int) : Int := if h : 0 ≤ way ∧ way.toNat < ss.length then ((ss[way.toNat]'h.2).bag.length : Int) else 0
def waitS (ss : List Lane) (way : Int) : Int := if h : 0 ≤ way ∧ way.toNat < ss.length then (((ss[way.toNat]'h.2).bag.length - (ss[way.toNat]'h.2).gone : Nat) : Int) else 0

/-- Frames that may be doubled. -/
def Small (ss : List Lane) : Prop := ∀ s, s ∈ ss → ∀ l, l ∈ s.bag → l.length ≤ 131072

theorem noWay_of {ss : List Lane} {way : Int} (h : ¬ (0 ≤ way ∧ way.toNat < ss.length)) : NoWay ss way := by
  unfold NoWay
  by_cases h0 : 0 ≤ way
  · exact .inr ⟨h0, by have : ¬ way.toNat < ss.length := fun k => h ⟨h0, k⟩; omega⟩
  · exact .inl (by omega)

theorem next_any (v : Value) (ss : List Lane) (L : Frag) (way : Int) (w : World) (h : WireF v ss L) (hL : Holds w L) :
    Calls Try.prog 8 #[v, .int .i64 way] w fun e w' => ∃ a c L1 L2, e = .returned (.tuple #[.slice a (nextS ss way).1.length c, .int .i64 (nextS ss way).2.1]) ∧
      BytesF (.slice a (nextS ss way).1.length c) (nextS ss way).1 L1 ∧ WireF v (nextS ss way).2.2 L2 ∧ Moves w w' L (L1 ++ L2) := by
  unfold nextS
  split
  · rename_i hw
    obtain ⟨k, rfl⟩ := Int.eq_ofNat_of_zero_le hw.1
    split
    · rename_i hg
      refine (next_some v ss L k w h hL hw.2 hg).mono ?_
      rintro e w' ⟨v', L1, L2, rfl, hF, hW, hM⟩
      obtain ⟨a, c, rfl⟩ := RowF.shape hF
      exact ⟨a, c, L1, L2, rfl, hF, hW, hM⟩
    · rename_i hg
      have hg' : ss[k].bag.length ≤ ss[k].gone := Nat.le_of_not_lt hg
      refine (next_none v ss L k w h hL hw.2 hg').mono ?_
      rintro e w' ⟨rfl, rfl⟩
      exact ⟨none, 0, [], L, rfl, bytesF_nil, h, Moves.refl w L⟩
  · rename_i hw
    refine (next_out v ss L way w h hL (noWay_of hw)).mono ?_
    rintro e w' ⟨rfl, rfl⟩
    exact ⟨none, 0, [], L, rfl, bytesF_nil, h, Moves.refl w L⟩

theorem lose_any (v : Value) (ss : List Lane) (L : Frag) (way : Int) (w : World) (h : WireF v ss L) (hL : Holds w L) :
    Calls Try.prog 10 #[v, .int .i64 way] w fun e w' => ∃ L2, e = .returned (.int .i64 (nextS ss way).2.1) ∧ WireF v (nextS ss way).2.2 L2 ∧ Moves w w' L L2 := by
  unfold nextS
  split
  · rename_i hw
    obtain ⟨k, rfl⟩ := Int.eq_ofNat_of_zero_le hw.1
    split
    · rename_i hg
      exact lose_some v ss L k w h hL hw.2 hg
    · rename_i hg
      have hg' : ss[k].bag.length ≤ ss[k].gone := Nat.le_of_not_lt hg
      refine (lose_none v ss L k w h hL hw.2 hg').mono ?_
      rintro e w' ⟨rfl, rfl⟩
      exact ⟨L, rfl, h, Moves.refl w L⟩
  · rename_i hw
    refine (lose_out v ss L way w h hL (noWay_of hw)).mono ?_
    rintro e w' ⟨rfl, rfl⟩
    exact ⟨L, rfl, h, Moves.refl w L⟩

theorem rnext_any (v : Value) (ss : List Lane) (L : Frag) (way : Int) (w : World) (h : RefF v ss L) (hL : Holds w L) :
    Calls Try.prog 9 #[v, .int .i64 way] w fun e w' => ∃ a c L2, e = .returned (.tuple #[.slice a (nextS ss way).1.length c, .int .i64 (nextS ss way).2.1]) ∧
      (∀ w', Holds w' L2 → BytesAt w' (.slice a (nextS ss way).1.length c) (nextS ss way).1) ∧ RefF v (nextS ss way).2.2 L2 ∧ Moves w w' L L2 := by
  unfold nextS
  split
  · rename_i hw
    obtain ⟨k, rfl⟩ := Int.eq_ofNat_of_zero_le hw.1
    split
    · rename_i hg
      exact rnext_some v ss L k w h hL hw.2 hg
    · rename_i hg
      have hg' : ss[k].bag.length ≤ ss[k].gone := Nat.le_of_not_lt hg
      refine (rnext_none v ss L k w h hL hw.2 hg').mono ?_
      rintro e w' ⟨rfl, hM⟩
      exact ⟨none, 0, L, rfl, fun _ _ => .inl ⟨rfl, rfl, rfl⟩, h, hM.frame L⟩
  · rename_i hw
    refine (rnext_out v ss L way w h hL (noWay_of hw)).mono ?_
    rintro e w' ⟨rfl, rfl⟩
    exact ⟨none, 0, L, rfl, fun _ _ => .inl ⟨rfl, rfl, rfl⟩, h, Moves.refl w L⟩

theorem badAt {n : Nat} {at_ : Int} (h : ¬ (0 ≤ at_ ∧ at_.toNat < n)) : at_ < 0 ∨ (0 ≤ at_ ∧ (n : Int) ≤ at_) := by
  by_cases h0 : 0 ≤ at_
  · exact .inr ⟨h0, by have : ¬ at_.toNat < n := fun k => h ⟨h0, k⟩; omega⟩
  · exact .inl (by omega)

theorem pick_any (v : Value) (ss : List Lane) (L : Frag) (way at_ : Int) (w : World) (h : WireF v ss L) (hL : Holds w L) (hs : Small ss) :
    Calls Try.prog 11 #[v, .int .i64 way, .int .i64 at_] w fun e w' => ∃ a c L1, e = .returned (.tuple #[.slice a (pickS ss way at_).1.length c, .int .i64 (pickS ss way at_).2]) ∧
      BytesF (.slice a (pickS ss way at_).1.length c) (pickS ss way at_).1 L1 ∧ Moves w w' [] L1 := by
  unfold pickS
  split
  · rename_i hw
    obtain ⟨k, rfl⟩ := Int.eq_ofNat_of_zero_le hw.1
    split
    · rename_i hg
      obtain ⟨j, rfl⟩ := Int.eq_ofNat_of_zero_le hg.1
      refine (pick_in v ss L k j w h hL hw.2 hg.2 (hs _ (List.getElem_mem _) _ (List.getElem_mem _))).mono ?_
      rintro e w' ⟨v', L1, rfl, hF, hM⟩
      obtain ⟨a, c, rfl⟩ := RowF.shape hF
      exact ⟨a, c, L1, rfl, hF, hM⟩
    · rename_i hg
      refine (pick_bad v ss L k at_ w h hL hw.2 (badAt hg)).mono ?_
      rintro e w' ⟨rfl, rfl⟩
      exact ⟨none, 0, [], rfl, bytesF_nil, Moves.refl w []⟩
  · rename_i hw
    refine (pick_out v ss L way at_ w h hL (noWay_of hw)).mono ?_
    rintro e w' ⟨rfl, rfl⟩
    exact ⟨none, 0, [], rfl, bytesF_nil, Moves.refl w []⟩

theorem rpick_any (v : Value) (ss : List Lane) (L : Frag) (way at_ : Int) (w : World) (h : RefF v ss L) (hL : Holds w L) :
    Calls Try.prog 12 #[v, .int .i64 way, .int .i64 at_] w fun e w' => ∃ a c, e = .returned (.tuple #[.slice a (pickS ss way at_).1.length c, .int .i64 (pickS ss way at_).2]) ∧
      (∀ w', Holds w' L → BytesAt w' (.slice a (pickS ss way at_).1.length c) (pickS ss way at_).1) ∧ w = w' := by
  unfold pickS
  split
  · rename_i hw
    obtain ⟨k, rfl⟩ := Int.eq_ofNat_of_zero_le hw.1
    split
    · rename_i hg
      obtain ⟨j, rfl⟩ := Int.eq_ofNat_of_zero_le hg.1
      exact rpick_in v ss L k j w h hL hw.2 hg.2
    · rename_i hg
      refine (rpick_bad v ss L k at_ w h hL hw.2 (badAt hg)).mono ?_
      rintro e w' ⟨rfl, rfl⟩
      exact ⟨none, 0, rfl, fun _ _ => .inl ⟨rfl, rfl, rfl⟩, rfl⟩
  · rename_i hw
    refine (rpick_out v ss L way at_ w h hL (noWay_of hw)).mono ?_
    rintro e w' ⟨rfl, rfl⟩
    exact ⟨none, 0, rfl, fun _ _ => .inl ⟨rfl, rfl, rfl⟩, rfl⟩

theorem shape_of {w : World} {x : Value} {l : List UInt8} (h : BytesAt w x l) : ∃ a c, x = .slice a l.length c := by
  rcases h with ⟨h1, h2, _⟩ | ⟨b', cap', h1, _⟩
  · exact ⟨none, 0, by rw [h1, h2]⟩
  · exact ⟨_, _, h1⟩

theorem send_any (v x : Value) (l : List UInt8) (ss : List Lane) (L F : Frag) (way : Int) (w : World) (h : WireF v ss L) (hL : Holds w (L ++ F)) (hx : ∀ w', Holds w' F → BytesAt w' x l) (hn : l.length ≤ 131072) :
    Calls Try.prog 13 #[v, .int .i64 way, x] w fun e w' => ∃ L2, e = .returned (.int .i64 (sendS ss way l).1) ∧ WireF v (sendS ss way l).2 L2 ∧ Moves w w' L L2 := by
  unfold sendS
  split
  · rename_i hw
    obtain ⟨k, rfl⟩ := Int.eq_ofNat_of_zero_le hw.1
    split
    · rename_i hg
      exact send_in v x l ss L F k w h hL hx hw.2 hn hg
    · rename_i hg
      obtain ⟨a, c, rfl⟩ := shape_of (hx w hL.right)
      have hg' : 200 ≤ ss[k].bag.length := Nat.le_of_not_lt hg
      refine (send_full v ss L k a l.length c w h hL.left hw.2 hn hg').mono ?_
      rintro e w' ⟨rfl, rfl⟩
      exact ⟨L, rfl, h, Moves.refl w L⟩
  · rename_i hw
    refine (send_out v x ss L way w h hL.left (noWay_of hw)).mono ?_
    rintro e w' ⟨rfl, rfl⟩
    exact ⟨L, rfl, h, Moves.refl w L⟩

theorem rsend_any (v x : Value) (l : List UInt8) (ss : List Lane) (L F : Frag) (way : Int) (w : World) (h : RefF v ss L) (hL : Holds w (L ++ F)) (hx : ∀ w', Holds w' F → BytesAt w' x l) (hn : l.length ≤ 131072) :
    Calls Try.prog 14 #[v, .int .i64 way, x] w fun e w' => ∃ L2, e = .returned (.int .i64 (sendS ss way l).1) ∧ RefF v (sendS ss way l).2 L2 ∧ Moves w w' L L2 := by
  unfold sendS
  split
  · rename_i hw
    obtain ⟨k, rfl⟩ := Int.eq_ofNat_of_zero_le hw.1
    split
    · rename_i hg
      exact rsend_in v x l ss L F k w h hL hx hw.2 hn hg
    · rename_i hg
      obtain ⟨a, c, rfl⟩ := shape_of (hx w hL.right)
      have hg' : 200 ≤ ss[k].bag.length := Nat.le_of_not_lt hg
      refine (rsend_full v ss L k a l.length c w h hL.left hw.2 hn hg').mono ?_
      rintro e w' ⟨rfl, rfl⟩
      exact ⟨L, rfl, h, Moves.refl w L⟩
  · rename_i hw
    refine (rsend_out v x ss L way w h hL.left (noWay_of hw)).mono ?_
    rintro e w' ⟨rfl, rfl⟩
    exact ⟨L, rfl, h, Moves.refl w L⟩

theorem count_any (v : Value) (ss : List Lane) (L : Frag) (way : Int) (w : World) (h : WireF v ss L) (hL : Holds w L) :
    Calls Try.prog 16 #[v, .int .i64 way] w fun e w' => e = .returned (.int .i64 (cntS ss way)) ∧ w = w' := by
  unfold cntS
  split
  · rename_i hw
    obtain ⟨k, rfl⟩ := Int.eq_ofNat_of_zero_le hw.1
    exact count_in v ss L k w h hL hw.2
  · rename_i hw
    exact count_out v ss L way w h hL (noWay_of hw)
theorem waiting_any (v : Value) (ss : List Lane) (L : Frag) (way : Int) (w : World) (h : WireF v ss L) (hL : Holds w L) :
    Calls Try.prog 17 #[v, .int .i64 way] w fun e w' => e = .returned (.int .i64 (waitS ss way)) ∧ w = w' := by
  unfold waitS
  split
  · rename_i hw
    obtain ⟨k, rfl⟩ := Int.eq_ofNat_of_zero_le hw.1
    exact waiting_in v ss L k w h hL hw.2
  · rename_i hw
    exact waiting_out v ss L way w h hL (noWay_of hw)
theorem counts_any (v : Value) (ss : List Lane) (L : Frag) (way : Int) (w : World) (h : RefF v ss L) (hL : Holds w L) :
    Calls Try.prog 18 #[v, .int .i64 way] w fun e w' => e = .returned (.agg #[.int .i64 (cntS ss way), .int .i64 (waitS ss way)]) ∧ Moves w w' [] [] := by
  unfold cntS waitS
  split
  · rename_i hw
    obtain ⟨k, rfl⟩ := Int.eq_ofNat_of_zero_le hw.1
    have hg : ss[k].gone ≤ ss[k].bag.length := by
      obtain ⟨b, g, cap, cur, c, bb, A, B, C, _, _, _, _, hR, _, _⟩ := h.open hw.2
      obtain ⟨vs, Lr, Lb, _, _, _, hg, _, _⟩ := hR
      exact hg
    refine (counts_in v ss L k w h hL hw.2).mono ?_
    rintro e w' ⟨rfl, hM⟩
    refine ⟨?_, hM⟩
    show _ = Ending.returned (.agg #[.int .i64 ss[k].bag.length, .int .i64 ((ss[k].bag.length - ss[k].gone : Nat) : Int)])
    rw [Int.natCast_sub hg]
  · rename_i hw
    exact counts_out v ss L way w h hL (noWay_of hw)

theorem small_next {ss : List Lane} (h : Small ss) (way : Int) : Small (nextS ss way).2.2 := by
  unfold nextS
  split
  · split
    · intro s hs l hl
      rcases List.mem_or_eq_of_mem_set hs with hs | rfl
      · exact h s hs l hl
      · exact h _ (List.getElem_mem _) l hl
    · exact h
  · exact h
theorem small_send {ss : List Lane} (h : Small ss) (way : Int) (l : List UInt8) (hl : l.length ≤ 131072) : Small (sendS ss way l).2 := by
  unfold sendS
  split
  · split
    · intro s hs m hm
      rcases List.mem_or_eq_of_mem_set hs with hs | rfl
      · exact h s hs m hm
      · rcases List.mem_append.1 hm with hm | hm
        · exact h _ (List.getElem_mem _) m hm
        · rw [List.mem_singleton.1 hm]; exact hl
    · exact h
  · exact h

end Go.Proofs.Ytfigfkfjcjkdiaa
