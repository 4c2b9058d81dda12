/- Image. -/
import Derived.Test.YtdgjcmjbkmgohaaFilesC
import Derived.Deep.RegionLaw
namespace Go.Proofs.Ytdgjcmjbkmgohaa
open Go.RowKit Go.Sl

/-- Files whose bytes a call owns. -/
def DataF : List FV → Frag → Prop
  | [], L => L = []
  | x :: xs, L => ∃ A B, BytesF x.dv x.data A ∧ DataF xs B ∧ L = A ++ B

theorem DataF.snoc {x : FV} {A : Frag} (hx : BytesF x.dv x.data A) : ∀ {xs : List FV} {L : Frag}, DataF xs L → DataF (xs ++ [x]) (L ++ A)
  | [], L, h => by
    obtain rfl : L = [] := h
    exact ⟨A, [], hx, rfl, by simp⟩
  | y :: xs, L, h => by
    obtain ⟨A', B, h1, h2, rfl⟩ := h
    exact ⟨A', B ++ A, h1, h2.snoc hx, by simp⟩
theorem DataF.at : ∀ {xs : List FV} {L : Frag}, DataF xs L → ∀ {w : World}, Holds w L → DataAt w xs
  | [], L, h, w, hL => fun x hx => by cases hx
  | y :: xs, L, h, w, hL => by
    obtain ⟨A, B, h1, h2, rfl⟩ := h
    intro x hx
    rcases List.mem_cons.1 hx with rfl | hx
    · exact BytesF.at h1 hL.left
    · exact h2.at hL.right x hx
theorem DataF.one {xs : List FV} {L : Frag} (h : DataF xs L) : ∀ x ∈ xs, x.dv.oneCell' = true := by
  induction xs generalizing L with
  | nil => intro x hx; cases hx
  | cons y xs ih =>
    obtain ⟨A, B, h1, h2, rfl⟩ := h
    intro x hx
    rcases List.mem_cons.1 hx with rfl | hx
    · exact RowF.oneCell h1
    · exact ih h2 x hx

/-- Files in a row, with their bytes. -/
def WholeF (v : Value) (xs : List FV) (L : Frag) : Prop := ∃ A B, FRowF v xs A ∧ DataF xs B ∧ L = A ++ B

/-- At the head of a round of Image. -/
def ImageInv (w : World) (fs : List (List UInt8 × FileR)) (N : Frag) (o i : Value) (wr : World) : Prop :=
  ∃ (k : Nat) (xs : List FV) (L : Frag), k ≤ fs.length ∧ i = .int .i64 k ∧ xs.length = k ∧ xs.map FV.file = (imageOf fs).take k ∧ WholeF o xs L ∧ Moves w wr [] (N ++ L)
def ImagePost (w : World) (fs : List (List UInt8 × FileR)) (e : Ending) (w' : World) : Prop :=
  ∃ v xs N, e = .returned v ∧ xs.map FV.file = imageOf fs ∧ WholeF v xs N ∧ Moves w w' [] N

set_option maxRecDepth 100000 in
set_option maxHeartbeats 4000000 in
theorem image_any (b : Nat) (pv : Option Addr) (fs : List (List UInt8 × FileR)) (L : Frag) (w : World) (hD : DiskF b pv fs L) (hL : Holds w L) (hk : ∀ p ∈ fs, p.1.length ≤ 40) (hn : fs.length ≤ 4096) (hok : AllOk fs) :
    Calls Try.prog 29 #[.pointer (some ⟨b, 0, none⟩)] w (ImagePost w fs) := by
  obtain ⟨i0, hi, hz0, hz1, hz2⟩ := info_parts infoFile
  have HN := Lib.hid (names_ok b pv fs L w hD hL hk hn)
  obtain ⟨m, om, l, Lf, rfl, ho, hf⟩ := hD
  have HL := Lib.hid hL
  have HO := Lib.hid ho
  have HF := Lib.hid hf
  have HOK := Lib.hid hok
  clear hL ho hf hok hk
  go_enter Try.func29, Try.ntmps29
  go_wp2_with (fail)
  refine HN.out.mono ?_
  rintro e w2 ⟨v, N, rfl, hR, hM⟩
  obtain ⟨na, nc, rfl⟩ := RowF.shape hR
  have HR := Lib.hid hR
  have M2 := Lib.hid hM
  clear hR hM HN
  go_wp2_with (fail)
  go_loopw [3, 10] (fun o i wr => ImageInv w fs N o i wr) (fun _ i _ => fs.length - (intOf i).toNat)
  case atStart => exact ⟨0, [], [], Nat.zero_le _, rfl, rfl, rfl, ⟨[], [], fRowF_nil, rfl, rfl⟩, by rw [List.append_nil]; exact M2.out⟩
  case round =>
    clear M2
    obtain ⟨k, xs, L2, hk, rfl, hxl, hxf, ⟨LA, LB, hrow, hdat, rfl⟩, hM⟩ := hrel
    obtain ⟨oa, oc, rfl⟩ := RowF.shape hrow
    have M := Lib.hid hM
    have HRW := Lib.hid hrow
    have HDT := Lib.hid hdat
    have HXF := Lib.hid hxf
    have HXL := Lib.hid hxl
    have hxle : xs.length ≤ 4096 := by omega
    clear hM hrow hdat hxf hxl
    by_cases hlt : k < fs.length
    · obtain ⟨nm, hnm⟩ : ∃ nm, (namesOf fs)[k]? = some nm := ⟨_, List.getElem?_eq_getElem (by rw [namesOf_length]; exact hlt)⟩
      obtain ⟨ng, nc', hng, _, hnc2, hcell⟩ := RowF.some HR.out (w := wr) (M.out.here (Holds.nil w)).left (by omega)
      injection hng with hng1 hng2 hng3
      subst hng1 hng3
      have g1 := hcell k (.string ⟨nm.toArray⟩) (by rw [List.getElem?_map, hnm]; rfl)
      obtain ⟨f, hlf⟩ := lookF_some (fs := fs) (k := nm) ((namesOf_perm fs).mem_iff.1 (List.mem_of_getElem? hnm))
      have hfo : OkF f := HOK.out _ (lookF_mem hlf)
      obtain ⟨v, f', A, B, C, hlk, hlf', ⟨dv, hv, hdv⟩, hLf, _⟩ := (HF.out.look nm).resolve_left (by rintro ⟨_, h, _⟩; rw [hlf] at h; cases h)
      obtain rfl : f' = f := Option.some.inj (hlf'.symm.trans hlf)
      obtain ⟨da, dc, rfl⟩ := RowF.shape hdv
      have hH := M.out.to _ (by rw [List.nil_append]; exact HL.out)
      have d1 := hH.right.cell0 (o := 1) rfl
      have lb := cell_lt d1
      have hlq : (Instr.lookup 68 (.map (some m)) (.string ⟨nm.toArray⟩) false).run Try.prog wr = .ok (.agg #[.slice da f'.data.length dc, .int .i64 f'.kept]) wr := by
        have : (lookM l nm).getD zf = .agg #[.slice da f'.data.length dc, .int .i64 f'.kept] := by rw [hlk, hv]; rfl
        rw [← this]
        exact run_look (P := Try.prog) (w := wr) Try.underlying68 Try.underlying9 (hH.right.get (List.mem_cons_of_mem _ (List.mem_cons_self ..))) HO.out nm (zeroFile _) false
      have hfile : Hid ((imageOf fs)[k]? = some (nm, f'.data, (f'.kept : Int))) := by
        show _ = _
        simp [imageOf, hnm, hlf]
      have HB := Lib.hid (show BytesAt wr (.slice da f'.data.length dc) f'.data from BytesF.at hdv (by
        have h := hH.right.right (A := [_, _])
        rw [hLf] at h
        exact (h.right).left))
      have hdl := hfo.2
      clear hnm hlf hlf' hlk hv hdv hLf hH hcell hfo
      go_upto_region 6 with (fail)
      have M3 := Lib.hid (M.out.alloc (.cells #[.slice da f'.data.length dc, .int .i64 f'.kept] 77))
      have HB2 := Lib.hid (HB.out.moves ((Moves.refl wr []).waste (.cells #[.slice da f'.data.length dc, .int .i64 f'.kept] 77)))
      obtain ⟨wa, hwa⟩ : ∃ wa, wa = wr.alloc (.cells #[.slice da f'.data.length dc, .int .i64 f'.kept] 77) := ⟨_, rfl⟩
      rw [← hwa] at M3 HB2 ⊢
      obtain ⟨Bx, hBx⟩ : ∃ Bx, Bx = wr.heap.size := ⟨_, rfl⟩
      rw [← hBx] at M3 ⊢
      clear hwa hBx hlq d1 g1 lb
      have s0 := (M3.out.here (Holds.nil w)).cell0 (o := 0) rfl
      have s1 := (M3.out.here (Holds.nil w)).cell0 (o := 1) rfl
      have HC := Lib.hid (clone_any _ f'.data wa.drew HB2.out hdl)
      go_region_held3 (fun w' => w'.cell? ⟨Bx, 0, none⟩ = some (.slice da f'.data.length dc) ∧ w'.cell? ⟨Bx, 1, none⟩ = some (.int .i64 f'.kept)) (first | exact ⟨s0, s1⟩ | exact ⟨q0, q1⟩ | exact ⟨t0 _, t1 _⟩ | exact ⟨r0, r1⟩) (first
        | (go_simp; go_at_call 38; refine HC.out.mono ?_; rintro e w4 ⟨ca, cc, NC, rfl, hNC, hM4⟩; have M4 := Lib.hid (M3.out.drew.call hM4); have HNC := Lib.hid hNC; have q0 := (M4.out.here (Holds.nil w)).right.cell0 (o := 0) (v := .slice da f'.data.length dc) rfl; have q1 := (M4.out.here (Holds.nil w)).right.cell0 (o := 1) (v := .int .i64 f'.kept) rfl; have t0 := fun o => ((M4.out.waste o).here (Holds.nil w)).right.cell0 (o := 0) (v := .slice da f'.data.length dc) rfl; have t1 := fun o => ((M4.out.waste o).here (Holds.nil w)).right.cell0 (o := 1) (v := .int .i64 f'.kept) rfl; clear hM4 hNC)
        | (refine step_append_R rfl (.tmp 20) (.tmp 28) 52 rfl 54 i0 _ 3 48 Try.underlying52 hi hz0 hz1 hz2 rfl _ xs.length (fcells xs) LA rfl HRW.out ?_ _ 1 (FV.cells ⟨nm, .slice ca f'.data.length cc, f'.data, f'.kept⟩) rfl rfl (rowAt_new w4 #[.string ⟨nm.toArray⟩, .slice ca f'.data.length cc, .int .i64 f'.kept] 54 1 (by unfold maxLen; omega)) (cells_one rfl) (by omega) (by omega) ?_; exact (M4.out.waste _).here (Holds.nil w) |>.right.right (A := [_]) |>.right.left; intro v5 w5 L5 hF5 hM5 _; have M5 := Lib.hid (((M4.out.waste _).reR (M' := LA ++ (NC ++ (N ++ (LB ++ [(Bx, .cells #[.slice da f'.data.length dc, .int .i64 f'.kept] 77 (0, 0))])))) fun f g h0 hc ha => by simp only [h0, hc, ha]; omega).calls hM5); have HF5 := Lib.hid (append_file hF5); have r0 := (M5.out.here (Holds.nil w)).right.right.right.right.cell0 (o := 0) (v := .slice da f'.data.length dc) rfl; have r1 := (M5.out.here (Holds.nil w)).right.right.right.right.cell0 (o := 1) (v := .int .i64 f'.kept) rfl; clear hF5 hM5))
      have hnew : Hid ((xs ++ [(⟨nm, .slice ca f'.data.length cc, f'.data, f'.kept⟩ : FV)]).map FV.file = (imageOf fs).take (k + 1)) := by
        show _ = _
        rw [List.map_append, HXF.out, List.take_add_one, hfile.out]; rfl
      obtain ⟨va5, vc5, rfl⟩ := RowF.shape HF5.out
      go_wp2_with (fail)
      go_roundw
      case rel =>
        refine ⟨k + 1, _, L5 ++ (LB ++ NC), by omega, by go_num, by rw [List.length_append, HXL.out]; rfl, hnew.out, ⟨L5, LB ++ NC, HF5.out, DataF.snoc HNC.out HDT.out, rfl⟩, ?_⟩
        exact (M5.out.reR (M' := [(Bx, .cells #[.slice da f'.data.length dc, .int .i64 f'.kept] 77 (0, 0))] ++ (N ++ (L5 ++ (LB ++ NC)))) fun f g h0 hc ha => by simp only [h0, hc, ha]; omega).drop
      case measure => simp [intOf]; omega
    · obtain rfl : k = fs.length := by omega
      have hfin : Hid (xs.map FV.file = imageOf fs) := by
        show _ = _
        rw [HXF.out]
        exact List.take_of_length_le (by simp [imageOf, namesOf_length])
      go_wp2_with (fail)
      go_ret
      exact ⟨_, xs, LA ++ LB, rfl, hfin.out, ⟨LA, LB, HRW.out, HDT.out, rfl⟩, M.out.drop⟩
end Go.Proofs.Ytdgjcmjbkmgohaa
