/- The document's 'put', walked. -/
import Derived.Test.YtdgjcmjbkmgohaaFilesP
import Derived.Deep.QuietTactic
import Derived.Deep.CutRange
namespace Go.Proofs.Ytdgjcmjbkmgohaa
open Go.RowKit Go.Sl

theorem infoFile : (Try.prog.info? 54).map (fun i => (i.zero, i.size, i.bytes)) = some (some (.agg #[.string ⟨#[]⟩, .slice none 0 0, .int .i64 0]), 3, 48) := by kernel_rfl

/-- A call's value is made anew; what was there is as it was. -/
def Gives (w : World) (R : Value → Frag → Prop) (e : Ending) (w' : World) : Prop := ∃ v N, e = .returned v ∧ R v N ∧ Moves w w' [] N

/-- A row of files that a call owns. -/
abbrev FRowF (v : Value) (xs : List FV) (L : Frag) : Prop := RowF 54 3 v xs.length (fcells xs) L
theorem fRowF_nil : FRowF (.slice none 0 0) [] [] := ⟨rfl, .inl ⟨rfl, rfl, rfl⟩⟩

theorem le_str (a b : List UInt8) : (Op.bytesLess a b || a == b) = leB a b := by
  rw [bytesLess_eq, Bool.eq_iff_iff, Bool.or_eq_true, decide_eq_true_iff, beq_iff_eq, leB_iff]
  constructor
  · rintro (h | rfl)
    · exact List.le_of_lt h
    · exact List.le_refl _
  · intro h
    by_cases e : a = b
    · exact .inr e
    · exact .inl (Std.lt_of_le_of_ne h e)

/-- Behind the first half of a round of 'put'. -/
def PutMid (w : World) (B : Nat) (x : FV) (out : List FV) (a : Bool) (o : Value) (wc : World) : Prop :=
  ∃ L, FRowF o (out ++ if a then [x] else []) L ∧ Moves w wc [] ((B, .cells #[.string ⟨x.name.toArray⟩, x.dv, .int .i64 x.kept] 54 (0, 0)) :: L)

/-- At the head of a round of 'put'. -/
def PutInv (w : World) (B : Nat) (x : FV) (xs : List FV) (o ld i : Value) (wr : World) : Prop :=
  ∃ (k : Nat) (laid : Bool) (out : List FV) (L : Frag), k ≤ xs.length ∧ i = .int .i64 k ∧ ld = .bool laid ∧ out.length ≤ 2 * k ∧ (∀ y ∈ out, y.dv.oneCell' = true) ∧ FRowF o out L ∧
    out ++ putGo x laid (xs.drop k) = putR xs x ∧ Moves w wr [] ((B, .cells #[.string ⟨x.name.toArray⟩, x.dv, .int .i64 x.kept] 54 (0, 0)) :: L)

/-- A file put behind a row of files. -/
theorem append_file {out : List FV} {x : FV} {v' : Value} {L : Frag} (h : RowF 54 3 v' (out.length + 1) (fcells out ++ x.cells) L) : FRowF v' (out ++ [x]) L := by
  have : fcells (out ++ [x]) = fcells out ++ x.cells := by simp [fcells_append]
  unfold FRowF
  rw [this, List.length_append]
  exact h

theorem put_last {w : World} {B : Nat} {x y : FV} {xs out : List FV} {o ld i : Value} {wr : World}
    (h : ∃ (k : Nat) (laid : Bool) (L : Frag), k ≤ xs.length ∧ i = .int .i64 k ∧ ld = .bool laid ∧ out.length + 1 ≤ 2 * k ∧ (∀ y ∈ out, y.dv.oneCell' = true) ∧ y.dv.oneCell' = true ∧ FRowF o (out ++ [y]) L ∧
      out ++ ([y] ++ putGo x laid (xs.drop k)) = putR xs x ∧ Moves w wr [] ((B, .cells #[.string ⟨x.name.toArray⟩, x.dv, .int .i64 x.kept] 54 (0, 0)) :: L)) : PutInv w B x xs o ld i wr := by
  obtain ⟨k, laid, L, h1, h2, h3, h4, h5, h6, h7, h8, h9⟩ := h
  refine ⟨k, laid, out ++ [y], L, h1, h2, h3, by simp; omega, fun z hz => ?_, h7, by rw [List.append_assoc]; exact h8, h9⟩
  rcases List.mem_append.1 hz with hz | hz
  · exact h5 z hz
  · obtain rfl := List.mem_singleton.1 hz
    exact h6

theorem cells_one {x : FV} (h : x.dv.oneCell' = true) : ∀ u ∈ x.cells, u.oneCell' = true := by
  intro u hu
  simp only [FV.cells, List.mem_cons, List.not_mem_nil, or_false] at hu
  rcases hu with rfl | rfl | rfl
  · rfl
  · exact h
  · rfl

set_option maxRecDepth 100000 in
set_option maxHeartbeats 4000000 in
theorem put_any (v : Value) (xs : List FV) (x : FV) (w : World) (h : FilesAt w v xs) (hn : xs.length ≤ 4096) (h1 : ∀ y ∈ xs, y.dv.oneCell' = true) (hx : x.dv.oneCell' = true) :
    Calls Try.prog 43 #[v, x.agg] w (Gives w fun v' N => FRowF v' (putR xs x) N) := by
  obtain ⟨i0, hi, hz0, hz1, hz2⟩ := info_parts infoFile
  obtain ⟨nm, dv, data, kept⟩ := x
  obtain ⟨va, vc, rfl⟩ := h.shape
  have HF := Lib.hid h
  have H1 := Lib.hid h1
  have HX := Lib.hid hx
  clear h h1 hx
  unfold FV.agg kv
  go_enter Try.func43, Try.ntmps43
  go_wp2_with (fail)
  have M0 := Lib.hid ((Moves.refl w []).alloc (.cells #[.string ⟨nm.toArray⟩, dv, .int .i64 kept] 54))
  obtain ⟨B, hB⟩ : ∃ B, B = w.heap.size := ⟨_, rfl⟩
  obtain ⟨w0, hw0⟩ : ∃ w0, w0 = w.alloc (.cells #[.string ⟨nm.toArray⟩, dv, .int .i64 kept] 54) := ⟨_, rfl⟩
  rw [← hB, ← hw0] at M0 ⊢
  clear hB hw0
  go_loopw [5, 6, 7] (fun o ld i wr => PutInv w B ⟨nm, dv, data, kept⟩ xs o ld i wr) (fun _ _ i _ => xs.length - (intOf i).toNat)
  case atStart => exact ⟨0, false, [], [], Nat.zero_le _, rfl, rfl, by simp, by simp, fRowF_nil, rfl, M0.out⟩
  case round =>
    clear M0
    obtain ⟨k, laid, out, L, hk, rfl, rfl, hol, ho1, hrow, hput, hM⟩ := hrel
    have M := Lib.hid hM
    have HR := Lib.hid hrow
    have HP := Lib.hid hput
    have HO := Lib.hid ho1
    obtain ⟨oa, oc, rfl⟩ := RowF.shape hrow
    have H0 := hM.here (Holds.nil w)
    have x0 := H0.cell0 (o := 0) rfl
    have x1 := H0.cell0 (o := 1) rfl
    have x2 := H0.cell0 (o := 2) rfl
    clear hM hrow hput ho1 H0
    by_cases hlt : k < xs.length
    · obtain ⟨y, hy⟩ : ∃ y, xs[k]? = some y := ⟨_, List.getElem?_eq_getElem hlt⟩
      obtain ⟨b, off, cap, hv, hG⟩ := FilesAt.always HF.out hy
      injection hv with hv1 _ hv3
      subst hv1 hv3
      obtain ⟨c0, c1, c2⟩ := hG _ (M.out.dropR (A := []))
      have HG := Lib.hid hG
      clear hG
      have hq := le_str nm y.name
      obtain ⟨q, hqe⟩ : ∃ q, q = leB nm y.name := ⟨_, rfl⟩
      rw [← hqe] at hq
      obtain ⟨a, ha⟩ : ∃ a, a = (!laid && q) := ⟨_, rfl⟩
      obtain ⟨l2, hl2⟩ : ∃ l2, l2 = (laid || q) := ⟨_, rfl⟩
      have HQ : Hid (l2 = (laid || leB nm y.name) ∧ a = (!laid && leB nm y.name)) := Lib.hid ⟨by rw [hl2, hqe], by rw [ha, hqe]⟩
      have HA := Lib.hid ha
      have HL2 := Lib.hid hl2
      clear hqe ha hl2
      have hPR : Hid (putGo ⟨nm, dv, data, kept⟩ laid (xs.drop k) = (if a then [⟨nm, dv, data, kept⟩] else []) ++ ((if y.name != nm then [y] else []) ++ putGo ⟨nm, dv, data, kept⟩ l2 (xs.drop (k + 1)))) := by
        show _ = _
        have : xs.drop k = y :: xs.drop (k + 1) := by
          rw [List.drop_eq_getElem_cons hlt]
          congr 1
          rw [List.getElem?_eq_getElem hlt] at hy
          exact Option.some.inj hy
        rw [this, putGo, HQ.out.1, HQ.out.2]
      go_wp2_with (fail)
      cases q <;> cases laid
      all_goals
        go_quiet (fail)
        go_upto_if 25 with (fail)
        have Mq := Lib.hid (M.out.drewN nq)
        have y0 := (Mq.out.here (Holds.nil w)).cell0 (o := 0) rfl
        have y1 := (Mq.out.here (Holds.nil w)).cell0 (o := 1) rfl
        have y2 := (Mq.out.here (Holds.nil w)).cell0 (o := 2) rfl
        obtain ⟨wq, hwq⟩ : ∃ wq, wq = wr.drewN nq := ⟨_, rfl⟩
        rw [← hwq] at Mq y0 y1 y2 ⊢
        clear hwq x0 x1 x2 c0 c1 c2 M
        go_cut [5, 6] from 26 to 44 (fun o ld wc => ld = .bool l2 ∧ PutMid w B ⟨nm, dv, data, kept⟩ out a o wc)
        case first =>
          have MA := Lib.hid (Mq.out.alloc (.cells #[.string ⟨nm.toArray⟩, dv, .int .i64 kept] 54))
          have RA := Lib.hid (rowAt_new wq #[.string ⟨nm.toArray⟩, dv, .int .i64 kept] 54 1 (by unfold maxLen; omega))
          go_wp2_with (at_builtin; refine wpList_append_R rfl (.tmp 26) (.tmp 28) 52 rfl 54 i0 _ 3 48 Try.underlying52 hi hz0 hz1 hz2 rfl _ out.length (fcells out) L rfl HR.out ((MA.out.here (Holds.nil w)).right (A := [_, _])) _ 1 (FV.cells ⟨nm, dv, data, kept⟩) rfl rfl RA.out (cells_one HX.out) (by omega) (by omega) ?_; intro v5 w5 L5 hF5 hM5 _; have MB := Lib.hid ((MA.out.reR (M' := L ++ [(wq.heap.size, .cells #[.string ⟨nm.toArray⟩, dv, .int .i64 kept] 54 (0, 0)), (B, .cells #[.string ⟨nm.toArray⟩, dv, .int .i64 kept] 54 (0, 0))]) fun f g h0 hc ha => by simp only [h0, hc, ha]; omega).calls hM5); have HF5 := Lib.hid (append_file hF5); clear hF5 hM5)
          go_meet
          case rel =>
            rw [HL2.out, HA.out]
            first
              | exact ⟨rfl, L5, HF5.out, (MB.out.reR (M' := [(wq.heap.size, .cells #[.string ⟨nm.toArray⟩, dv, .int .i64 kept] 54 (0, 0))] ++ ((B, .cells #[.string ⟨nm.toArray⟩, dv, .int .i64 kept] 54 (0, 0)) :: L5)) fun f g h0 hc ha => by simp only [h0, hc, ha]; omega).drop⟩
              | exact ⟨rfl, L, by rw [if_neg (by decide), List.append_nil]; exact HR.out, Mq.out⟩
        case rest =>
          obtain ⟨rfl, L6, hrow6, hM6⟩ := hcut
          obtain ⟨o6, hO6⟩ : ∃ o6, o6 = out ++ (if a then [⟨nm, dv, data, kept⟩] else []) := ⟨_, rfl⟩
          rw [← hO6] at hrow6
          have h61 : Hid (∀ z ∈ o6, z.dv.oneCell' = true) := by
            show ∀ z ∈ o6, _
            intro z hz
            rw [hO6] at hz
            rcases List.mem_append.1 hz with hz | hz
            · exact HO.out z hz
            · cases a
              · simp at hz
              · obtain rfl := List.mem_singleton.1 (by simpa using hz)
                exact HX.out
          have h6l : o6.length ≤ 2 * k + 1 := by rw [hO6]; cases a <;> simp <;> omega
          have HO6 := Lib.hid hO6
          obtain ⟨o6a, o6c, rfl⟩ := RowF.shape hrow6
          have HR6 := Lib.hid hrow6
          have M6 := Lib.hid hM6
          have H0 := hM6.here (Holds.nil w)
          have x0 := H0.cell0 (o := 0) rfl
          have x1 := H0.cell0 (o := 1) rfl
          have x2 := H0.cell0 (o := 2) rfl
          obtain ⟨c0, c1, c2⟩ := HG.out _ (M6.out.dropR (A := []))
          clear hrow6 hM6 H0 hO6 y0 y1 y2 Mq HA HL2
          have HY1 := Lib.hid (H1.out y (List.mem_of_getElem? hy))
          cases hne : (y.name != nm)
          all_goals
            first
              | (have hne2 : (y.name == nm) = true := by simpa using hne)
              | (have hne2 : (y.name == nm) = false := by simpa using hne)
            go_wp2_with (fail)
            go_quiet (fail)
            obtain ⟨wp, hwp⟩ : ∃ wp, wp = wc.drewN nq := ⟨_, rfl⟩
            have Mp := Lib.hid (M6.out.drewN nq)
            rw [← hwp] at Mp ⊢
            clear hwp c0 c1 c2
            obtain ⟨c0, c1, c2⟩ := HG.out _ (Mp.out.dropR (A := []))
            have MA := Lib.hid (Mp.out.alloc (.cells #[.string ⟨y.name.toArray⟩, y.dv, .int .i64 y.kept] 54))
            have RA := Lib.hid (rowAt_new wp #[.string ⟨y.name.toArray⟩, y.dv, .int .i64 y.kept] 54 1 (by unfold maxLen; omega))
            go_wp2_with (at_builtin; refine wpList_append_R rfl (.tmp 38) (.tmp 43) 52 rfl 54 i0 _ 3 48 Try.underlying52 hi hz0 hz1 hz2 rfl _ o6.length (fcells o6) L6 rfl HR6.out ((MA.out.here (Holds.nil w)).right (A := [_, _])) _ 1 y.cells rfl rfl RA.out (cells_one HY1.out) (by omega) (by omega) ?_; intro v5 w5 L5 hF5 hM5 _; have MB := Lib.hid ((MA.out.reR (M' := L6 ++ [(wp.heap.size, .cells #[.string ⟨y.name.toArray⟩, y.dv, .int .i64 y.kept] 54 (0, 0)), (B, .cells #[.string ⟨nm.toArray⟩, dv, .int .i64 kept] 54 (0, 0))]) fun f g h0 hc ha => by simp only [h0, hc, ha]; omega).calls hM5); have HF5 := Lib.hid (append_file hF5); clear hF5 hM5)
            go_roundw
            case rel =>
              have hp := HP.out
              rw [hPR.out, ← List.append_assoc, ← HO6.out] at hp
              simp only [hne, Bool.false_eq_true, if_false, if_true, List.nil_append] at hp
              first
                | exact ⟨k + 1, l2, o6, L6, by omega, by go_num, rfl, by omega, h61.out, HR6.out, hp, Mp.out⟩
                | exact put_last ⟨k + 1, l2, L5, by omega, by go_num, rfl, by omega, h61.out, HY1.out, HF5.out, hp, (MB.out.reR (M' := [(wp.heap.size, .cells #[.string ⟨y.name.toArray⟩, y.dv, .int .i64 y.kept] 54 (0, 0))] ++ ((B, .cells #[.string ⟨nm.toArray⟩, dv, .int .i64 kept] 54 (0, 0)) :: L5)) fun f g h0 hc ha => by simp only [h0, hc, ha]; omega).drop⟩
            case measure => simp [intOf]; omega
    · obtain rfl : k = xs.length := by omega
      have hP2 : Hid (putR xs ⟨nm, dv, data, kept⟩ = out ++ (if laid then [] else [⟨nm, dv, data, kept⟩])) := by
        show _ = _
        rw [← HP.out, List.drop_length]; rfl
      have MA := Lib.hid (M.out.alloc (.cells #[.string ⟨nm.toArray⟩, dv, .int .i64 kept] 54))
      have RA := Lib.hid (rowAt_new wr #[.string ⟨nm.toArray⟩, dv, .int .i64 kept] 54 1 (by unfold maxLen; omega))
      cases laid
      · go_wp2_with (at_builtin; refine wpList_append_R rfl (.tmp 47) (.tmp 49) 52 rfl 54 i0 _ 3 48 Try.underlying52 hi hz0 hz1 hz2 rfl _ out.length (fcells out) L rfl HR.out ((MA.out.here (Holds.nil w)).right (A := [_, _])) _ 1 (FV.cells ⟨nm, dv, data, kept⟩) rfl rfl RA.out (cells_one HX.out) (by omega) (by omega) ?_; intro v5 w5 L5 hF5 hM5 _; have MB := Lib.hid ((MA.out.reR (M' := L ++ [(wr.heap.size, .cells #[.string ⟨nm.toArray⟩, dv, .int .i64 kept] 54 (0, 0)), (B, .cells #[.string ⟨nm.toArray⟩, dv, .int .i64 kept] 54 (0, 0))]) fun f g h0 hc ha => by simp only [h0, hc, ha]; omega).calls hM5); have HF5 := Lib.hid (append_file hF5); clear hF5 hM5)
        go_ret
        refine ⟨v5, L5, rfl, ?_, (MB.out.reR (M' := [(wr.heap.size, .cells #[.string ⟨nm.toArray⟩, dv, .int .i64 kept] 54 (0, 0)), (B, .cells #[.string ⟨nm.toArray⟩, dv, .int .i64 kept] 54 (0, 0))] ++ L5) fun f g h0 hc ha => by simp only [h0, hc, ha]; omega).drop⟩
        rw [hP2.out]; exact HF5.out
      · go_wp2_with (fail)
        go_ret
        refine ⟨_, L, rfl, ?_, (M.out.reR (M' := [(B, .cells #[.string ⟨nm.toArray⟩, dv, .int .i64 kept] 54 (0, 0))] ++ L) fun f g h0 hc ha => by simp only [h0, hc, ha]; omega).drop⟩
        rw [hP2.out]; simp only [if_true, List.append_nil]; exact HR.out
end Go.Proofs.Ytdgjcmjbkmgohaa
