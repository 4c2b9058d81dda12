/- Fragments of memory: a small logic of what a call owns. Plain lemmas, no program in sight. -/
import Derived.WalkKit
import Derived.ProofKit
import Derived.Below
import Derived.Laws.OwnMore
import Derived.Lib.Hide
import Derived.Conc.LoneSelect
import Derived.BigQuiet
import Derived.StillTailTactics
import Derived.Laws.BytesArg
import Derived.Deep.QuietTactic
namespace Go.Sl
open Go.RowKit

abbrev Frag := List (Nat × Obj)

/-- The streams are as they were; no block has gone. -/
structure Ext (w w' : World) : Prop where
  os : w'.os = w.os
  tape : w'.tape = w.tape
  output : w'.output = w.output
  size : w.heap.size ≤ w'.heap.size

theorem Ext.refl (w : World) : Ext w w := ⟨rfl, rfl, rfl, Nat.le_refl _⟩
theorem Ext.trans {a b c : World} (h : Ext a b) (k : Ext b c) : Ext a c :=
  ⟨k.os.trans h.os, k.tape.trans h.tape, k.output.trans h.output, Nat.le_trans h.size k.size⟩

/-- The world holds these blocks, each once. -/
def Holds (w : World) (L : Frag) : Prop := (L.map Prod.fst).Nodup ∧ ∀ p, p ∈ L → w.heap[p.1]? = some p.2

theorem Holds.nil (w : World) : Holds w [] := ⟨by simp, fun _ h => by cases h⟩
theorem Holds.perm {w : World} {L L' : Frag} (h : Holds w L) (p : L.Perm L') : Holds w L' :=
  ⟨(p.map Prod.fst).nodup_iff.1 h.1, fun x hx => h.2 x (p.mem_iff.2 hx)⟩
theorem Holds.left {w : World} {A B : Frag} (h : Holds w (A ++ B)) : Holds w A :=
  ⟨by have := h.1; rw [List.map_append] at this; exact (List.nodup_append.1 this).1, fun x hx => h.2 x (List.mem_append_left _ hx)⟩
theorem Holds.swap {w : World} {A B : Frag} (h : Holds w (A ++ B)) : Holds w (B ++ A) := h.perm List.perm_append_comm
theorem Holds.right {w : World} {A B : Frag} (h : Holds w (A ++ B)) : Holds w B := h.swap.left
theorem Holds.get {w : World} {L : Frag} (h : Holds w L) {b : Nat} {o : Obj} (hm : (b, o) ∈ L) : w.heap[b]? = some o := h.2 _ hm
theorem Holds.lt {w : World} {L : Frag} (h : Holds w L) {p : Nat × Obj} (hm : p ∈ L) : p.1 < w.heap.size := (Array.getElem?_eq_some_iff.1 (h.2 p hm)).1
theorem Holds.cell {w : World} {L : Frag} (h : Holds w L) {b o : Nat} {c : Array Value} {T : TypeId} {fz : Nat × Nat} {v : Value} (hm : (b, Obj.cells c T fz) ∈ L) (hv : c[o]? = some v) :
    w.cell? ⟨b, o, none⟩ = some v := by
  have := h.get hm
  simp [World.cell?, this, hv]
theorem Holds.free {w : World} {L : Frag} (h : Holds w L) {b : Nat} {c : Array Value} {T : TypeId} (hm : (b, Obj.cells c T (0, 0)) ∈ L) (o : Nat) :
    w.frozen? ⟨b, o, none⟩ = false := by
  have := h.get hm
  simp [World.frozen?, this]
theorem Holds.cell0 {w : World} {L : Frag} {b o : Nat} {c : Array Value} {T : TypeId} {fz : Nat × Nat} {v : Value} (h : Holds w ((b, .cells c T fz) :: L)) (hv : c[o]? = some v) : w.cell? ⟨b, o, none⟩ = some v :=
  h.cell (List.mem_cons_self ..) hv
theorem Holds.cell1 {w : World} {x : Nat × Obj} {L : Frag} {b o : Nat} {c : Array Value} {T : TypeId} {fz : Nat × Nat} {v : Value} (h : Holds w (x :: (b, .cells c T fz) :: L)) (hv : c[o]? = some v) : w.cell? ⟨b, o, none⟩ = some v :=
  h.cell (List.mem_cons_of_mem _ (List.mem_cons_self ..)) hv
theorem Holds.free0 {w : World} {L : Frag} {b : Nat} {c : Array Value} {T : TypeId} (h : Holds w ((b, .cells c T (0, 0)) :: L)) (o : Nat) : w.frozen? ⟨b, o, none⟩ = false :=
  h.free (List.mem_cons_self ..) o
theorem Holds.free1 {w : World} {x : Nat × Obj} {L : Frag} {b : Nat} {c : Array Value} {T : TypeId} (h : Holds w (x :: (b, .cells c T (0, 0)) :: L)) (o : Nat) : w.frozen? ⟨b, o, none⟩ = false :=
  h.free (List.mem_cons_of_mem _ (List.mem_cons_self ..)) o
theorem Holds.lt0 {w : World} {L : Frag} {b : Nat} {o : Obj} (h : Holds w ((b, o) :: L)) : b < w.heap.size := h.lt (List.mem_cons_self ..)
theorem Holds.lt1 {w : World} {x : Nat × Obj} {L : Frag} {b : Nat} {o : Obj} (h : Holds w (x :: (b, o) :: L)) : b < w.heap.size := h.lt (List.mem_cons_of_mem _ (List.mem_cons_self ..))
theorem cell_lt {w : World} {b o : Nat} {v : Value} (h : w.cell? ⟨b, o, none⟩ = some v) : b < w.heap.size := World.block_lt_of_cell? w ⟨b, o, none⟩ h
/-- What is not named twice. -/
theorem Holds.apart {w : World} {A B : Frag} (h : Holds w (A ++ B)) {x y : Nat × Obj} (hx : x ∈ A) (hy : y ∈ B) : x.1 ≠ y.1 := by
  have := h.1
  rw [List.map_append] at this
  exact (List.nodup_append.1 this).2.2 _ (List.mem_map_of_mem hx) _ (List.mem_map_of_mem hy)

theorem Holds.of {w w' : World} {L : Frag} (h : Holds w L) (k : ∀ p, p ∈ L → w'.heap[p.1]? = w.heap[p.1]?) : Holds w' L :=
  ⟨h.1, fun p hp => (k p hp).trans (h.2 p hp)⟩

/-- From w to w' the blocks L became L'; all else that was there is as it was. -/
structure Moves (w w' : World) (L L' : Frag) : Prop where
  ext : Ext w w'
  to : ∀ F, Holds w (L ++ F) → Holds w' (L' ++ F)

theorem Moves.refl (w : World) (L : Frag) : Moves w w L L := ⟨Ext.refl w, fun _ h => h⟩
theorem Moves.trans {w w1 w2 : World} {L L1 L2 : Frag} (h : Moves w w1 L L1) (k : Moves w1 w2 L1 L2) : Moves w w2 L L2 :=
  ⟨h.ext.trans k.ext, fun F hF => k.to F (h.to F hF)⟩
theorem Moves.frame {w w1 : World} {L L1 : Frag} (h : Moves w w1 L L1) (G : Frag) : Moves w w1 (L ++ G) (L1 ++ G) :=
  ⟨h.ext, fun F hF => by rw [List.append_assoc] at hF ⊢; exact h.to _ hF⟩
theorem Moves.permR {w w1 : World} {L L1 L2 : Frag} (h : Moves w w1 L L1) (p : L1.Perm L2) : Moves w w1 L L2 :=
  ⟨h.ext, fun F hF => (h.to F hF).perm (p.append_right F)⟩
theorem Moves.permL {w w1 : World} {L L0 L1 : Frag} (h : Moves w w1 L L1) (p : L0.Perm L) : Moves w w1 L0 L1 :=
  ⟨h.ext, fun F hF => h.to F (hF.perm (p.append_right F))⟩
/-- What is let go. -/
theorem Moves.drop {w w1 : World} {L A B : Frag} (h : Moves w w1 L (A ++ B)) : Moves w w1 L B :=
  ⟨h.ext, fun F hF => by have := h.to F hF; rw [List.append_assoc] at this; exact this.right⟩
theorem Moves.dropR {w w1 : World} {L A B : Frag} (h : Moves w w1 L (A ++ B)) : Moves w w1 L A :=
  ⟨h.ext, fun F hF => by have := (h.permR List.perm_append_comm).to F hF; rw [List.append_assoc] at this; exact this.right⟩
theorem Moves.frameL {w w1 : World} {L L1 : Frag} (h : Moves w w1 L L1) (G : Frag) : Moves w w1 (G ++ L) (G ++ L1) :=
  ((h.frame G).permL List.perm_append_comm).permR List.perm_append_comm
/-- Behind a call that makes N and leaves the rest alone. -/
theorem Moves.call {a w w1 : World} {L M N : Frag} (h : Moves a w L M) (k : Moves w w1 [] N) : Moves a w1 L (N ++ M) := h.trans (k.frame M)
/-- Behind a call that turns A into B. -/
theorem Moves.calls {a w w1 : World} {L A B M : Frag} (h : Moves a w L (A ++ M)) (k : Moves w w1 A B) : Moves a w1 L (B ++ M) := h.trans (k.frame M)
/-- A call that only reads: all that was there is as it was. -/
theorem Moves.holds {w w1 : World} (h : Moves w w1 [] []) {L : Frag} (hL : Holds w L) : Holds w1 L := h.to L hL
theorem Moves.here {w w1 : World} {L L1 : Frag} (h : Moves w w1 L L1) (hL : Holds w L) : Holds w1 L1 := by
  have := h.to [] (by rw [List.append_nil]; exact hL)
  rwa [List.append_nil] at this

theorem Ext.drew {a w : World} (h : Ext a w) : Ext a w.drew := ⟨h.os, h.tape, h.output, h.size⟩
theorem Moves.drew {a w : World} {L L' : Frag} (h : Moves a w L L') : Moves a w.drew L L' := ⟨h.ext.drew, fun F hF => h.to F hF⟩
theorem Moves.drewN {a w : World} {L L' : Frag} (h : Moves a w L L') (n : Nat) : Moves a (w.drewN n) L L' := ⟨⟨h.ext.os, h.ext.tape, h.ext.output, h.ext.size⟩, fun F hF => h.to F hF⟩

theorem Holds.alloc {w : World} {L : Frag} (h : Holds w L) (o : Obj) : Holds (w.alloc o) ((w.heap.size, o) :: L) := by
  refine ⟨?_, ?_⟩
  · rw [List.map_cons, List.nodup_cons]
    refine ⟨fun hm => ?_, h.1⟩
    obtain ⟨p, hp, he⟩ := List.mem_map.1 hm
    have := h.lt hp
    simp at he
    omega
  · intro p hp
    rcases List.mem_cons.1 hp with rfl | hp
    · exact heap_alloc_new w o
    · rw [Below.heap_alloc w o _ (h.lt hp)]; exact h.2 p hp
theorem Moves.alloc {a w : World} {L L' : Frag} (h : Moves a w L L') (o : Obj) : Moves a (w.alloc o) L ((w.heap.size, o) :: L') :=
  ⟨h.ext.trans ⟨rfl, rfl, rfl, by simp⟩, fun F hF => (h.to F hF).alloc o⟩
/-- A new block that nobody keeps. -/
theorem Moves.waste {a w : World} {L L' : Frag} (h : Moves a w L L') (o : Obj) : Moves a (w.alloc o) L L' :=
  (Moves.alloc h o).drop (A := [_])

theorem Holds.put {w w' : World} {b : Nat} {o o' : Obj} {L : Frag} (h : Holds w ((b, o) :: L)) (h1 : w'.heap[b]? = some o') (h2 : ∀ k, k ≠ b → w'.heap[k]? = w.heap[k]?) : Holds w' ((b, o') :: L) := by
  have hn := h.1
  rw [List.map_cons, List.nodup_cons] at hn
  refine ⟨by rw [List.map_cons, List.nodup_cons]; exact hn, fun p hp => ?_⟩
  rcases List.mem_cons.1 hp with rfl | hp
  · exact h1
  · have : p.1 ≠ b := fun e => hn.1 (List.mem_map.2 ⟨p, hp, e⟩)
    rw [h2 _ this]; exact h.2 p (List.mem_cons_of_mem _ hp)

theorem Moves.put {a w w' : World} {b : Nat} {o o' : Obj} {L L' : Frag} (h : Moves a w L ((b, o) :: L')) (he : Ext w w') (h1 : w.heap[b]? = some o → w'.heap[b]? = some o') (h2 : ∀ k, k ≠ b → w'.heap[k]? = w.heap[k]?) : Moves a w' L ((b, o') :: L') :=
  ⟨h.ext.trans he, fun F hF => by have := h.to F hF; exact Holds.put this (h1 (this.get (List.mem_cons_self ..))) h2⟩

theorem Moves.setCell {a w : World} {b : Nat} {c : Array Value} {T : TypeId} {fz : Nat × Nat} {L L' : Frag} (h : Moves a w L ((b, .cells c T fz) :: L')) (off : Nat) (v : Value) :
    Moves a (w.setCell ⟨b, off, none⟩ v) L ((b, .cells (c.setIfInBounds off v) T fz) :: L') := by
  refine h.put ⟨rfl, rfl, rfl, by simp [World.setCell]⟩ (fun hb => ?_) (fun k hk => ?_)
  · simp [World.setCell, Array.getElem?_modify, hb]
  · simp [World.setCell, Array.getElem?_modify, Ne.symm hk]

theorem Moves.setChan {a w : World} {c : Nat} {o : Obj} {L L' : Frag} (h : Moves a w L ((c, o) :: L')) (cap : Nat) (buf : Array Value) (cl : Bool) (s r : Nat) (tm : Bool) :
    Moves a (w.setChan c cap buf cl s r tm) L ((c, .chan cap buf cl s r tm) :: L') := by
  refine h.put ⟨rfl, rfl, rfl, by simp [World.setChan]⟩ (fun hb => ?_) (fun k hk => ?_)
  · exact Go.Conc.heap_setChan w c cap buf cl s r tm (Array.getElem?_eq_some_iff.1 hb).1
  · simp [World.setChan, Ne.symm hk]

/-- Behind a law that ends in 'grownBy': the row that may have been written is one of L's. -/
theorem Moves.grown {w w' : World} {row : Option Nat} {L L' : Frag} (hg : w.grownBy w' row) (hr : ∀ k, row = some k → k ∈ L.map Prod.fst) (hL : Holds w' L') (hn : ∀ k, k ∈ L'.map Prod.fst → k ∈ L.map Prod.fst ∨ w.heap.size ≤ k) : Moves w w' L L' := by
  refine ⟨⟨hg.os, hg.tape, hg.output, hg.size⟩, fun F hF => ?_⟩
  have hd := hF.1
  rw [List.map_append] at hd
  obtain ⟨hd1, hd2, hd3⟩ := List.nodup_append.1 hd
  refine ⟨?_, fun p hp => ?_⟩
  · rw [List.map_append]
    refine List.nodup_append.2 ⟨hL.1, hd2, fun x hx y hy => ?_⟩
    rcases hn x hx with h | h
    · exact hd3 x h y hy
    · obtain ⟨p, hp, rfl⟩ := List.mem_map.1 hy
      have := hF.lt (List.mem_append_right L hp)
      omega
  · rcases List.mem_append.1 hp with hp | hp
    · exact hL.2 p hp
    · rw [hg.block _ (hF.lt (List.mem_append_right L hp)) (fun e => ?_)]
      · exact hF.2 p (List.mem_append_right L hp)
      · exact hd3 _ (hr _ e.symm) _ (List.mem_map_of_mem hp) rfl

/-- Two fragments of the same parts: counted. `perm_of fun f g h0 hc ha => by simp only [h0, hc, ha]; omega` -/
theorem perm_of {L L' : Frag} (h : ∀ (f : Frag → Nat) (g : Nat × Obj → Nat), f [] = 0 → (∀ x A, f (x :: A) = g x + f A) → (∀ A B, f (A ++ B) = f A + f B) → f L = f L') : L.Perm L' := by
  classical
  refine List.perm_iff_count.2 fun a => ?_
  refine h (fun l => l.count a) (fun x => if x == a then 1 else 0) List.count_nil (fun x A => ?_) (fun A B => List.count_append)
  rw [List.count_cons]; omega
theorem Holds.re {w : World} {L L' : Frag} (h : Holds w L) (k : ∀ (f : Frag → Nat) (g : Nat × Obj → Nat), f [] = 0 → (∀ x A, f (x :: A) = g x + f A) → (∀ A B, f (A ++ B) = f A + f B) → f L = f L') : Holds w L' := h.perm (perm_of k)
theorem Moves.re {w w' : World} {L L' M M' : Frag} (h : Moves w w' L L') (k : ∀ (f : Frag → Nat) (g : Nat × Obj → Nat), f [] = 0 → (∀ x A, f (x :: A) = g x + f A) → (∀ A B, f (A ++ B) = f A + f B) → f M = f L ∧ f L' = f M') : Moves w w' M M' :=
  (h.permL (perm_of fun f g h0 hc ha => (k f g h0 hc ha).1)).permR (perm_of fun f g h0 hc ha => (k f g h0 hc ha).2)
theorem Moves.reR {w w' : World} {L L' M' : Frag} (h : Moves w w' L L') (k : ∀ (f : Frag → Nat) (g : Nat × Obj → Nat), f [] = 0 → (∀ x A, f (x :: A) = g x + f A) → (∀ A B, f (A ++ B) = f A + f B) → f L' = f M') : Moves w w' L M' :=
  h.permR (perm_of k)

/-- All blocks of a world. -/
def whole (w : World) : Frag := w.heap.toList.zipIdx.map fun p => (p.2, p.1)
theorem holds_whole (w : World) : Holds w (whole w) := by
  refine ⟨?_, fun p hp => ?_⟩
  · have : (whole w).map Prod.fst = List.range w.heap.size := by
      simp only [whole, List.map_map]
      rw [show (Prod.fst ∘ fun p : Obj × Nat => (p.2, p.1)) = Prod.snd from rfl, List.zipIdx_map_snd, List.range_eq_range']
      simp
    rw [this]; exact List.nodup_range
  · simp only [whole, List.mem_map] at hp
    obtain ⟨q, hq, rfl⟩ := hp
    have := List.mem_zipIdx_iff_getElem?.1 hq
    simpa using this
theorem mem_whole {w : World} {b : Nat} {o : Obj} (h : w.heap[b]? = some o) : (b, o) ∈ whole w := by
  simp only [whole, List.mem_map]
  exact ⟨(o, b), List.mem_zipIdx_iff_getElem?.2 (by simpa using h), rfl⟩
theorem below_of_whole {W w : World} {L : Frag} (he : Ext W w) (h : Holds w (L ++ whole W)) : Below W.heap.size W w := by
  refine ⟨he.os, he.tape, he.output, he.size, fun k hk => ?_⟩
  have hm := mem_whole (w := W) (b := k) (o := W.heap[k]) (by simp [hk])
  rw [h.get (List.mem_append_right L hm)]
  simp [hk]
theorem RowAtWhole_aux {W w : World} (h : Holds w (whole W)) (k : Nat) (hk : k < W.heap.size) : w.heap[k]? = W.heap[k]? := by
  have hm := mem_whole (w := W) (b := k) (o := W.heap[k]) (by simp [hk])
  rw [h.get hm]
  simp [hk]
/-- A call that only reads leaves all below as it was. -/
theorem Moves.below {W w : World} {L : Frag} (h : Moves W w [] L) : Below W.heap.size W w :=
  below_of_whole (L := L) h.ext (h.to _ (holds_whole W))
theorem Moves.of_below {W w : World} (h : Below W.heap.size W w) : Moves W w [] [] :=
  ⟨⟨h.os, h.tape, h.output, h.size⟩, fun _ hF => hF.of fun _ hp => h.block _ (hF.lt hp)⟩

/-! ### Rows -/

/-- A slice value of n elements (size cells each) that owns its row. -/
def RowF (T : TypeId) (size : Nat) (v : Value) (n : Nat) (xs : List Value) (L : Frag) : Prop :=
  xs.length = n * size ∧ ((v = .slice none 0 0 ∧ n = 0 ∧ L = []) ∨
    ∃ g cap cur, v = .slice (some ⟨g, 0, none⟩) n cap ∧ L = [(g, .cells cur T (0, 0))] ∧ n ≤ cap ∧ cap ≤ maxLen ∧ cap * size ≤ cur.size ∧ cur.toList.take (n * size) = xs)

/-- What a slice value reads as. -/
def RowAt (w : World) (v : Value) (n : Nat) (xs : List Value) : Prop :=
  (v = .slice none 0 0 ∧ n = 0 ∧ xs = []) ∨ ∃ (a : Addr) (cap : Nat), v = .slice (some a) n cap ∧ n ≤ cap ∧ cap ≤ maxLen ∧ ∀ j u, xs[j]? = some u → w.cell? (a.add j) = some u

theorem RowF.at {T size n} {v : Value} {xs : List Value} {L : Frag} (h : RowF T size v n xs L) {w : World} (hL : Holds w L) : RowAt w v n xs := by
  rcases h.2 with ⟨h1, h2, _⟩ | ⟨g, cap, cur, h1, h2, h3, h4, h5, h6⟩
  · exact .inl ⟨h1, h2, List.eq_nil_of_length_eq_zero (by rw [h.1, h2]; simp)⟩
  · refine .inr ⟨⟨g, 0, none⟩, cap, h1, h3, h4, fun j u hu => ?_⟩
    rw [Addr.add_lit]
    refine hL.cell (c := cur) (T := T) (fz := (0, 0)) (by rw [h2]; simp) ?_
    rw [← h6, List.getElem?_take] at hu
    split at hu
    · simpa using hu
    · cases hu

theorem block_add (a : Addr) (j : Nat) : (a.add j).block = a.block := by unfold Addr.add; split <;> rfl
theorem RowAt.of {w w' : World} {v : Value} {n : Nat} {xs : List Value} (h : RowAt w v n xs) (k : ∀ (a : Addr) n cap, v = .slice (some a) n cap → xs ≠ [] → w'.heap[a.block]? = w.heap[a.block]?) : RowAt w' v n xs := by
  rcases h with h | ⟨a, cap, h1, h2, h3, h4⟩
  · exact .inl h
  · refine .inr ⟨a, cap, h1, h2, h3, fun j u hu => ?_⟩
    rw [World.cell?_of_block (w := w) (by rw [block_add]; exact k a n cap h1 (fun e => by rw [e] at hu; simp at hu))]
    exact h4 j u hu
/-- Where something is read, there is a block. -/
theorem RowAt.lt {w : World} {a : Addr} {n m cap : Nat} {xs : List Value} (h : RowAt w (.slice (some a) m cap) n xs) (hx : xs ≠ []) : a.block < w.heap.size ∧ a = ⟨a.block, a.off, none⟩ := by
  rcases h with ⟨h, _⟩ | ⟨a', cap', h1, _, _, h4⟩
  · cases h
  · obtain ⟨u, r, rfl⟩ := List.exists_cons_of_ne_nil hx
    have := h4 0 u rfl
    injection h1 with e1 e2 e3; injection e1 with e1
    subst e1
    have hb := World.block_lt_of_cell? w _ this
    rw [block_add] at hb
    refine ⟨hb, ?_⟩
    obtain ⟨b, off, spot⟩ := a
    cases spot with
    | none => rfl
    | some s =>
      exfalso
      simp only [Addr.add, if_true, World.cell?] at this
      split at this <;> simp at this

theorem RowAt.moves {w w' : World} {v : Value} {n : Nat} {xs : List Value} (h : RowAt w v n xs) (m : Moves w w' [] []) : RowAt w' v n xs := by
  refine h.of fun a n' cap hv hx => ?_
  subst hv
  exact m.below.block _ (h.lt hx).1

/-- A row that is not empty: where it lies, and its cells. -/
theorem RowF.some {T : TypeId} {size n : Nat} {v : Value} {xs : List Value} {L : Frag} (h : RowF T size v n xs L) {w : World} (hL : Holds w L) (hn : 0 < n) :
    ∃ g cap, v = .slice (some ⟨g, 0, none⟩) n cap ∧ n ≤ cap ∧ cap ≤ maxLen ∧ ∀ j u, xs[j]? = some u → w.cell? ⟨g, j, none⟩ = some u := by
  rcases RowF.at h hL with ⟨_, h2, _⟩ | ⟨a, cap, h1, h2, h3, h4⟩
  · omega
  · rcases h.2 with ⟨e1, e2, _⟩ | ⟨g', cap', cur, e1, _⟩
    · omega
    · rw [h1] at e1; injection e1 with e1 e2 e3; injection e1 with e1
      subst e1
      exact ⟨g', cap, h1, h2, h3, fun j u hu => by have := h4 j u hu; rw [Addr.add_lit] at this; simpa using this⟩
theorem RowF.shape {T : TypeId} {size n : Nat} {v : Value} {xs : List Value} {L : Frag} (h : RowF T size v n xs L) : ∃ a cap, v = .slice a n cap := by
  rcases h.2 with ⟨h1, h2, _⟩ | ⟨g', cap', cur', h1, _⟩
  · exact ⟨none, 0, by rw [h1, h2]⟩
  · exact ⟨_, _, h1⟩

/-- What was read at first is read wherever the old blocks are. -/
theorem RowAt.whole {W w : World} {v : Value} {n : Nat} {xs : List Value} (h : RowAt W v n xs) (hw : Holds w (Sl.whole W)) : RowAt w v n xs := by
  refine h.of fun a n' cap hv hx => ?_
  subst hv
  exact RowAtWhole_aux hw _ (h.lt hx).1
/-- Bytes as cells. -/
def bs (l : List UInt8) : List Value := l.map fun b => .int .u8 b.toNat
@[simp] theorem bs_length (l : List UInt8) : (bs l).length = l.length := by simp [bs]
theorem bs_inj {a b : List UInt8} (h : bs a = bs b) : a = b := by
  induction a generalizing b with
  | nil => cases b <;> simp_all [bs]
  | cons x a ih =>
    cases b with
    | nil => simp [bs] at h
    | cons y b =>
      simp only [bs, List.map_cons, List.cons.injEq] at h
      obtain ⟨h1, h2⟩ := h
      injection h1 with _ h1
      have h3 : x.toNat = y.toNat := by omega
      rw [ih h2, UInt8.toNat_inj.1 h3]
theorem bs_append (a b : List UInt8) : bs (a ++ b) = bs a ++ bs b := by simp [bs]
theorem bs_one (l : List UInt8) : ∀ u ∈ bs l, u.oneCell' = true := by
  intro u hu
  obtain ⟨b, _, rfl⟩ := List.mem_map.1 hu
  rfl
/-- Bytes that a slice value reads as. -/
def BytesAt (w : World) (v : Value) (l : List UInt8) : Prop := RowAt w v l.length (bs l)

theorem setRow_moves {w : World} {g : Nat} {cur : Array Value} {T : TypeId} {a : World} {L L' : Frag} (h : Moves a w L ((g, .cells cur T (0, 0)) :: L')) (cs : Array Value) :
    Moves a (w.setRow g cs) L ((g, .cells cs T (0, 0)) :: L') :=
  h.put ⟨rfl, rfl, rfl, by simp⟩ (fun hb => setRow_heap w g cur cs T (0, 0) hb) (fun k hk => setRow_other w g k cs hk)

/-- append onto an owned row: in place, or a new row; the rest as it was. -/
theorem append_F {P : Program} (w : World) (t ty e : TypeId) (i : TypeInfo) (z : Value) (size bytes : Nat) (ht : P.underlying t = some (.slice e)) (hi : P.info? e = some i) (hz : i.zero = some z)
    (hsize : i.size = size) (hby : i.bytes = bytes) (hzs : z.cells.size = size)
    (v : Value) (n : Nat) (xs : List Value) (L : Frag) (hF : RowF e size v n xs L) (hL : Holds w L)
    (a : Addr) (m c : Nat) (news : List Value) (hl : news.length = m * size) (hnews : ∀ j u, news[j]? = some u → w.cell? (a.add j) = some u) (h1 : ∀ u ∈ news, u.oneCell' = true)
    (hbytes : (n + m) * bytes ≤ 140737488355328) (hnm : n + m ≤ 140737488355328) :
    ∃ v' w' L', (Builtin.append_ #[t, t] ty #[v, .slice (some a) m c]).run P w = .ok v' w' ∧ RowF e size v' (n + m) (xs ++ news) L' ∧ Moves w w' L L' ∧
      (v' = .slice none 0 0 ↔ v = .slice none 0 0 ∧ m = 0) := by
  subst hsize
  subst hby
  have hlen : (xs ++ news).length = (n + m) * i.size := by rw [List.length_append, hF.1, hl, Nat.add_mul]
  have h63 : n + m ≤ maxLen := by unfold maxLen; omega
  have grown : ∀ (old : Nat), old < n + m →
      RowF e i.size (.slice (some ⟨w.heap.size, 0, none⟩) (n + m) (grownCap w (n + m) old e)) (n + m) (xs ++ news)
        [(w.heap.size, .cells (xs.toArray ++ news.toArray ++ Builtin.zeroCells z.cells (grownCap w (n + m) old e - (n + m))) e (0, 0))] := by
    intro old ho
    have hge := grownCap_ge w (n + m) old e
    have hcm : grownCap w (n + m) old e ≤ maxLen := grownCap_le_maxLen w (n + m) old e h63
    refine ⟨hlen, .inr ⟨w.heap.size, _, _, rfl, rfl, hge, hcm, Nat.le_of_eq ?_, ?_⟩⟩
    · simp only [Array.size_append, List.size_toArray, size_zeroCells, hzs, hF.1, hl, ← Nat.add_mul]
      congr 1
      omega
    · simp only [Array.toList_append, List.append_assoc]
      rw [← List.append_assoc, ← hlen]
      exact List.take_left
  have mv : ∀ o : Obj, Moves w (w.drew.alloc o) L [(w.heap.size, o)] := fun o =>
    Moves.dropR (B := L) (by simpa using ((Moves.refl w L).drew.alloc o))
  rcases hF.2 with ⟨rfl, rfl, rfl⟩ | ⟨g, cap, cur, rfl, rfl, hnc, hcm, hcs, htake⟩
  · have hx : xs = [] := List.eq_nil_of_length_eq_zero (by simpa using hF.1)
    subst hx
    by_cases hm : m = 0
    · subst hm
      have hn : news = [] := List.eq_nil_of_length_eq_zero (by simpa using hl)
      subst hn
      refine ⟨.slice none 0 0, w, [], ?_, ⟨by simp, .inl ⟨rfl, rfl, rfl⟩⟩, Moves.refl w _, by simp⟩
      simp [Builtin.append_, run_underlying ht, sizeOf, typeInfo, hi, Builtin.lenOf, Builtin.firstCells, loadCells, loadCellsFrom]
    · have hr := run_append_nil (P := P) w t ty e i z ht hi hz a m c news hl hnews (by omega) (by unfold maxLen at h63; omega) (by have hb := hbytes; simp only [Nat.zero_add] at hb; omega)
      have hgr := grown 0 (by omega)
      simp only [Nat.zero_add, List.nil_append, Array.empty_append] at hgr ⊢
      exact ⟨_, _, _, hr, hgr, mv _, by simp [hm]⟩
  · have hg : w.heap[g]? = some (.cells cur e (0, 0)) := hL.get (by simp)
    by_cases hroom : n + m ≤ cap
    · have hfit : n * i.size + news.length ≤ cur.size := by rw [hl, ← Nat.add_mul]; exact Nat.le_trans (Nat.mul_le_mul_right _ hroom) hcs
      have hr := run_append_room (P := P) w t ty e i ht hi g n cap cur hg a m c news hl hnews h1 hroom hfit
      refine ⟨_, _, _, hr, ⟨hlen, .inr ⟨g, cap, _, rfl, rfl, hroom, hcm, ?_, ?_⟩⟩, setRow_moves (Moves.refl w _) _, by simp⟩
      · simp only [List.size_toArray, List.length_append, List.length_take, List.length_drop, Array.length_toList]
        omega
      · rw [htake, ← hlen]
        exact List.take_left
    · have holds : ∀ j u, xs[j]? = some u → w.cell? ((⟨g, 0, none⟩ : Addr).add j) = some u := fun j u hu => by
        rw [Addr.add_lit, Nat.zero_add]
        refine hL.cell0 ?_
        rw [← htake, List.getElem?_take] at hu
        split at hu
        · simpa using hu
        · cases hu
      have hr := run_append_grow (P := P) w t ty e i z ht hi hz ⟨g, 0, none⟩ n cap xs hF.1 holds a m c news hl hnews (by omega) (by unfold maxLen at h63; omega) (growslice_fits (by omega) hbytes)
      have hgr := grown cap (by omega)
      exact ⟨_, _, _, hr, hgr, mv _, by simp⟩

/-- The same, of whatever slice value stands behind: nil too. -/
theorem append_R {P : Program} (w : World) (t ty e : TypeId) (i : TypeInfo) (z : Value) (size bytes : Nat) (ht : P.underlying t = some (.slice e)) (hi : P.info? e = some i) (hz : i.zero = some z)
    (hsize : i.size = size) (hby : i.bytes = bytes) (hzs : z.cells.size = size)
    (v : Value) (n : Nat) (xs : List Value) (L : Frag) (hF : RowF e size v n xs L) (hL : Holds w L)
    (xv : Value) (m : Nat) (news : List Value) (hl : news.length = m * size) (hx : RowAt w xv m news) (h1 : ∀ u ∈ news, u.oneCell' = true)
    (hbytes : (n + m) * bytes ≤ 140737488355328) (hnm : n + m ≤ 140737488355328) :
    ∃ v' w' L', (Builtin.append_ #[t, t] ty #[v, xv]).run P w = .ok v' w' ∧ RowF e size v' (n + m) (xs ++ news) L' ∧ Moves w w' L L' ∧
      (v' = .slice none 0 0 ↔ v = .slice none 0 0 ∧ m = 0) := by
  rcases hx with ⟨rfl, rfl, rfl⟩ | ⟨b, cap, rfl, _, _, hc⟩
  · refine ⟨v, w, L, ?_, by simpa using hF, Moves.refl w L, by simp⟩
    subst hsize
    rcases hF.2 with ⟨rfl, _, _⟩ | ⟨g, cap, cur, rfl, _, hnc, _⟩
    · simp [Builtin.append_, run_underlying ht, sizeOf, typeInfo, hi, Builtin.lenOf, Builtin.firstCells]
    · simp [Builtin.append_, run_underlying ht, sizeOf, typeInfo, hi, Builtin.lenOf, Builtin.firstCells, hnc, storeCells]
  · exact append_F w t ty e i z size bytes ht hi hz hsize hby hzs v n xs L hF hL b m cap news hl hc h1 hbytes hnm

theorem wpList_append_R {P : Program} {w : World} {ops : Array Oper} {rest : List Oper} {o : Oper} {a : Act} {Q : Exit → Act → World → Prop} (hgd : o.guard = none) (s x : Operand) (t : TypeId)
    (ho : o.op = .call { callee := .builtin .append, args := #[s, x], argTypes := #[t, t] })
    (e : TypeId) (i : TypeInfo) (z : Value) (size bytes : Nat) (ht : P.underlying t = some (.slice e)) (hi : P.info? e = some i) (hz : i.zero = some z)
    (hsize : i.size = size) (hby : i.bytes = bytes) (hzs : z.cells.size = size)
    (v : Value) (n : Nat) (xs : List Value) (L : Frag) (hs : a.eval s = v) (hF : RowF e size v n xs L) (hL : Holds w L)
    (xv : Value) (m : Nat) (news : List Value) (hxe : a.eval x = xv) (hl : news.length = m * size) (hx : RowAt w xv m news) (h1 : ∀ u ∈ news, u.oneCell' = true)
    (hbytes : (n + m) * bytes ≤ 140737488355328) (hnm : n + m ≤ 140737488355328)
    (h : ∀ v' w' L', RowF e size v' (n + m) (xs ++ news) L' → Moves w w' L L' → (v' = .slice none 0 0 ↔ v = .slice none 0 0 ∧ m = 0) → wpList P ops Q rest (a.put o.dst v') w') : wpList P ops Q (o :: rest) a w := by
  refine wpList_plain hgd fun K hK => ?_
  obtain ⟨v', w', L', hr, h2, h3, h4⟩ := append_R (P := P) w t o.type e i z size bytes ht hi hz hsize hby hzs v n xs L hF hL xv m news hl hx h1 hbytes hnm
  unfold Oper.wp execOp
  simp only [ho, resolve, invoke, builtin, Sem.run_bind, Sem.run_pure, Result.andThen_ok, List.map_toArray, List.map_cons, List.map_nil, hs, hxe, hr]
  exact hK _ _ (h v' w' L' h2 h3 h4)

theorem step_append_R {P : Program} {ops : Array Oper} {o : Oper} {a : Act} {w : World} {K : Act → World → Prop} {Q : Exit → Act → World → Prop} {E : Prop} (hgd : o.guard = none) (s x : Operand) (t : TypeId)
    (ho : o.op = .call { callee := .builtin .append, args := #[s, x], argTypes := #[t, t] })
    (e : TypeId) (i : TypeInfo) (z : Value) (size bytes : Nat) (ht : P.underlying t = some (.slice e)) (hi : P.info? e = some i) (hz : i.zero = some z)
    (hsize : i.size = size) (hby : i.bytes = bytes) (hzs : z.cells.size = size)
    (v : Value) (n : Nat) (xs : List Value) (L : Frag) (hs : a.eval s = v) (hF : RowF e size v n xs L) (hL : Holds w L)
    (xv : Value) (m : Nat) (news : List Value) (hxe : a.eval x = xv) (hl : news.length = m * size) (hx : RowAt w xv m news) (h1 : ∀ u ∈ news, u.oneCell' = true)
    (hbytes : (n + m) * bytes ≤ 140737488355328) (hnm : n + m ≤ 140737488355328)
    (h : ∀ v' w' L', RowF e size v' (n + m) (xs ++ news) L' → Moves w w' L L' → (v' = .slice none 0 0 ↔ v = .slice none 0 0 ∧ m = 0) → K (a.put o.dst v') w') : if Region.wanted o (yielded ops a.tmps) = true then Oper.wp P o a w K Q else E := by
  rw [if_pos (by simp [Region.wanted, hgd])]
  obtain ⟨v', w', L', hr, h2, h3, h4⟩ := append_R (P := P) w t o.type e i z size bytes ht hi hz hsize hby hzs v n xs L hF hL xv m news hl hx h1 hbytes hnm
  unfold Oper.wp execOp
  simp only [ho, resolve, invoke, builtin, Sem.run_bind, Sem.run_pure, Result.andThen_ok, List.map_toArray, List.map_cons, List.map_nil, hs, hxe, hr]
  exact h v' w' L' h2 h3 h4

/-- A new row of one cell, read. -/
theorem rowAt_one (w : World) (u : Value) (T : TypeId) : RowAt (w.alloc (.cells #[u] T)) (.slice (some ⟨w.heap.size, 0, none⟩) 1 1) 1 [u] := by
  refine .inr ⟨⟨_, 0, none⟩, 1, rfl, Nat.le_refl _, by unfold maxLen; omega, fun j u' hu => ?_⟩
  rw [Addr.add_lit, Nat.zero_add]
  match j, hu with
  | 0, hu =>
    refine ((Holds.nil w).alloc (.cells #[u] T)).cell0 ?_
    simpa using hu
  | j + 1, hu => simp at hu
/-- A new row, read. -/
theorem rowAt_new (w : World) (cs : Array Value) (T : TypeId) (n : Nat) (hn : n ≤ maxLen) : RowAt (w.alloc (.cells cs T)) (.slice (some ⟨w.heap.size, 0, none⟩) n n) n cs.toList := by
  refine .inr ⟨⟨_, 0, none⟩, n, rfl, Nat.le_refl _, hn, fun j u hu => ?_⟩
  rw [Addr.add_lit, Nat.zero_add]
  exact ((Holds.nil w).alloc (.cells cs T)).cell0 (by simpa using hu)
theorem rowAt_new' (w : World) (cs : Array Value) (T : TypeId) (n g : Nat) (hn : n ≤ maxLen) (hg : g = w.heap.size) : RowAt (w.alloc (.cells cs T)) (.slice (some ⟨g, 0, none⟩) n n) n cs.toList := by
  subst hg; exact rowAt_new w cs T n hn
theorem RowAt.drew {w : World} {v : Value} {n : Nat} {xs : List Value} (h : RowAt w v n xs) : RowAt w.drew v n xs := h
theorem rowAt_frag {w : World} {g n : Nat} {cs : Array Value} {T : TypeId} {fz : Nat × Nat} (h : Holds w [(g, .cells cs T fz)]) (hn : n ≤ maxLen) : RowAt w (.slice (some ⟨g, 0, none⟩) n n) n cs.toList := by
  refine .inr ⟨⟨_, 0, none⟩, n, rfl, Nat.le_refl _, hn, fun j u hu => ?_⟩
  rw [Addr.add_lit, Nat.zero_add]
  exact h.cell0 (by simpa using hu)
theorem RowF.oneCell {T : TypeId} {size n : Nat} {v : Value} {xs : List Value} {L : Frag} (h : RowF T size v n xs L) : v.oneCell' = true := by
  rcases h.2 with ⟨h1, _⟩ | ⟨g', cap', cur', h1, _⟩ <;> subst h1 <;> rfl

/-- A region that draws its order, its first n operations reading only: walked in the text's order. -/
theorem wp_still_tail {P : Program} {id : Nat} {Q : Exit → Act → World → Prop} {a : Act} {w : World} {l : List Oper} (n : Nat) (hm : P.follows .mixedOrders = true) (hB : Region.lexTailB .any l.toArray n = true)
    (h : wpStill P l.toArray w.drew (fun a' => wpList P l.toArray Q (l.drop n) a' w.drew) (l.take n) a) : (Code.region id l.toArray true).wp P Q a w :=
  wp_region_still_tail n hm hB h

theorem ofNat_back (l : List UInt8) : (l.map fun b => (b.toNat : Int)).map (fun n => UInt8.ofNat n.toNat) = l := by
  rw [List.map_map]
  refine (List.map_congr_left fun b _ => ?_).trans (List.map_id' l)
  simp
/-- string(b) of bytes. -/
theorem run_string_of_bytes {P : Program} {w : World} {v : Value} {l : List UInt8} (h : BytesAt w v l) (src e dst : TypeId) (hs : P.underlying src = some (.slice e)) (he : P.underlying e = some (.int .u8)) (hd : P.underlying dst = some .string) :
    (convert src dst v).run P w = .ok (.string ⟨l.toArray⟩) w := by
  rcases h with ⟨rfl, h0, _⟩ | ⟨a, cap, rfl, hn, hm, hc⟩
  · have : l = [] := List.eq_nil_of_length_eq_zero h0
    subst this
    exact run_convert_bytes_nil w src e hs he 0 0 dst hd
  by_cases hl : l = []
  · subst hl
    rw [run_convert_bytes_string w src dst e _ _ cap hs he hd]
    exact run_bytesToString w a 0 cap [] (run_loadCells_list (P := P) w a [] (fun j v hj => by simp at hj))
  · have ha := (show RowAt w (.slice (some a) l.length cap) l.length (bs l) from .inr ⟨a, cap, rfl, hn, hm, hc⟩).lt (fun e => hl (List.eq_nil_of_length_eq_zero (by rw [← bs_length, e]; rfl)))
    obtain ⟨b, off, spot⟩ := a
    obtain rfl : spot = none := by injection ha.2
    have := run_convert_bytes_arg (P := P) w src e hs he b off l.length cap (l.map fun b => (b.toNat : Int)) (by simp) (fun i hi => by
      have := hc i (.int .u8 (l[i].toNat)) (by simp [bs, hi])
      rw [Addr.add_lit] at this
      rw [this]; simp [List.getD, hi]) dst hd
    rw [this]
    have e1 := ofNat_back l
    simp only [strOfNums]
    rw [e1]

end Go.Sl
