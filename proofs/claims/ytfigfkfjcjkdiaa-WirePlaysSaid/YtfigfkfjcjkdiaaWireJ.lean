/- The acts that come in; few. -/
import Derived.Test.YtfigfkfjcjkdiaaWireH
namespace Go.Proofs.Ytfigfkfjcjkdiaa
open Go.RowKit Go.Sl Go.Conc

/-- An act, as it reads. -/
structure ActR where
  kind : Int
  way : Int
  fv : Value
  frame : List UInt8
  k : Int

/-- Acts that a slice value reads as. -/
def ActsAt (w : World) (v : Value) (l : List ActR) : Prop :=
  (l = [] ∧ ∃ a c, v = .slice a 0 c) ∨ ∃ b off cap, v = .slice (some ⟨b, off, none⟩) l.length cap ∧ ∀ i (h : i < l.length),
    w.cell? ⟨b, off + i * 4, none⟩ = some (.int .u8 l[i].kind) ∧ w.cell? ⟨b, off + i * 4 + 1, none⟩ = some (.int .i64 l[i].way) ∧ w.cell? ⟨b, off + i * 4 + 2, none⟩ = some l[i].fv ∧ w.cell? ⟨b, off + i * 4 + 3, none⟩ = some (.int .i64 l[i].k) ∧
    BytesAt w l[i].fv l[i].frame ∧ 0 ≤ l[i].kind ∧ l[i].kind ≤ 255

theorem ActsAt.moves {w w' : World} {v : Value} {l : List ActR} (h : ActsAt w v l) (m : Moves w w' [] []) : ActsAt w' v l := by
  have hb := m.below
  rcases h with h | ⟨b, off, cap, hv, hc⟩
  · exact .inl h
  · refine .inr ⟨b, off, cap, hv, fun i hi => ?_⟩
    obtain ⟨c0, c1, c2, c3, hB, k1, k2⟩ := hc i hi
    have lt := cell_lt c0
    have e : ∀ o, w'.cell? ⟨b, o, none⟩ = w.cell? ⟨b, o, none⟩ := fun o => hb.cell (p := ⟨b, o, none⟩) lt
    exact ⟨by rw [e]; exact c0, by rw [e]; exact c1, by rw [e]; exact c2, by rw [e]; exact c3, RowAt.moves hB m, k1, k2⟩

def fewS (l : List ActR) : Bool := decide (l.length ≤ 60) && l.all fun a => decide (a.frame.length ≤ 300)

theorem shape_at {w : World} {x : Value} {l : List UInt8} (h : BytesAt w x l) : ∃ a c, x = .slice a l.length c := by
  rcases h with ⟨h1, h2, _⟩ | ⟨b', cap', h1, _⟩
  · exact ⟨none, 0, by rw [h1, h2]⟩
  · exact ⟨_, _, h1⟩

theorem few_long (v : Value) (l : List ActR) (w : World) (h : ActsAt w v l) (hl : 60 < l.length) :
    Calls Try.prog 6 #[v] w fun e w' => e = .returned (.bool false) ∧ w = w' := by
  rcases h with ⟨rfl, _⟩ | ⟨b, off, cap, rfl, _⟩
  · simp at hl
  go_enter Try.func6, Try.ntmps6
  go_wp2
  go_ret
  exact ⟨rfl, rfl⟩

theorem few_nil (a : Option Addr) (c : Nat) (w : World) :
    Calls Try.prog 6 #[.slice a 0 c] w fun e w' => e = .returned (.bool true) ∧ w = w' := by
  go_enter Try.func6, Try.ntmps6
  go_wp2
  refine wp_loop_once ?_
  go_wp2
  go_ret
  exact ⟨rfl, rfl⟩

set_option maxHeartbeats 400000 in
theorem few_any (v : Value) (l : List ActR) (w : World) (h : ActsAt w v l) :
    Calls Try.prog 6 #[v] w fun e w' => e = .returned (.bool (fewS l)) ∧ w = w' := by
  by_cases hl : 60 < l.length
  · refine (few_long v l w h hl).mono ?_
    rintro e w' ⟨rfl, rfl⟩
    have : decide (l.length ≤ 60) = false := by simp; omega
    exact ⟨by simp [fewS, this], rfl⟩
  rcases h with ⟨rfl, a, c, rfl⟩ | ⟨b, off, cap, rfl, hc⟩
  · exact few_nil a c w
  have H60 : Hid (decide (l.length ≤ 60) = true) := by show _ = _; simp; omega
  have HC := Lib.hid hc
  have hl' : (l.length : Int) ≤ 60 := by omega
  clear hc hl
  go_enter Try.func6, Try.ntmps6
  go_wp2
  go_loop [3] (fun i => ∃ k : Nat, k ≤ l.length ∧ i = .int .i64 k ∧ Hid ((l.take k).all (fun a => decide (a.frame.length ≤ 300)) = true)) (fun i => l.length - (intOf i).toNat)
  case atStart => exact ⟨0, Nat.zero_le _, rfl, rfl⟩
  case round =>
    obtain ⟨k, hk, rfl, hall⟩ := hrel
    by_cases hlt : k < l.length
    · obtain ⟨_, _, c2, _, hb, _⟩ := HC.out k hlt
      obtain ⟨fa, fc, hfv⟩ := shape_at hb
      have HV := Lib.hid hfv
      rw [hfv] at c2
      clear hb hfv
      by_cases hsm : l[k].frame.length ≤ 300
      · go_wp2
        go_round
        case rel =>
          refine ⟨k + 1, by omega, by go_num, ?_⟩
          show _ = _
          rw [List.take_succ_eq_append_getElem hlt, List.all_append, hall.out]
          simp; omega
        case measure => simp [intOf]; omega
      · go_wp2
        go_ret
        refine ⟨?_, rfl⟩
        have : l.all (fun a => decide (a.frame.length ≤ 300)) = false := by
          rw [Bool.eq_false_iff]
          intro h
          exact hsm (of_decide_eq_true (List.all_eq_true.1 h _ (List.getElem_mem hlt)))
        simp [fewS, this]
    · go_wp2
      go_ret
      have : k = l.length := by omega
      subst this
      have h1 := hall.out
      rw [List.take_length] at h1
      exact ⟨by rw [fewS, H60.out, h1]; rfl, rfl⟩

end Go.Proofs.Ytfigfkfjcjkdiaa
