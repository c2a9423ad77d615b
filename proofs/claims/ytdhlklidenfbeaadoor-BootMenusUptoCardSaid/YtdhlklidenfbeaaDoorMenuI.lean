/- What BootMenus keeps in memory from call to call (layer 22). -/
import Derived.Test.YtdhlklidenfbeaaDoorMenuH
import Derived.Test.YtdhlklidenfbeaaDoorLaw22T
namespace Go.Proofs.YtdhlklidenfbeaaDoor
open Go.RowKit
set_option linter.unusedVariables false
set_option linter.unusedSimpArgs false

/-- What lies below two marks is as it was, and these blocks hold these menus. -/
structure Stb (w w2 W : World) (L : List (Nat × Array Value)) : Prop where
  b0 : Below w.heap.size w W
  b2 : Below w2.heap.size w2 W
  kp : ∀ p ∈ L, Blk W p.1 63 p.2
/-- A menu whose generations are the call's own, apart from the blocks of a list. -/
structure OwnA (w2 W : World) (L : List (Nat × Array Value)) (X : Menu) (A : Option Addr) (n c : Nat) : Prop where
  own : W.ownsRow w2.heap.size 69 2 (.slice A n c) n (X.gens.flatMap genCells)
  ne : ∀ p ∈ L, (Value.slice A n c).ownBlock ≠ some p.1

theorem own_keeps {w w' : World} {base : Nat} {e : TypeId} {size : Nat} {v : Value} {n : Nat} {xs : List Value} (h : w.ownsRow base e size v n xs) (hb : Below w.heap.size w w') : w'.ownsRow base e size v n xs := by
  refine h.kept (row := none) ⟨hb.os, hb.tape, hb.output, hb.size, fun k hk _ => hb.block k hk⟩ ?_
  rcases hv : v.ownBlock with _ | k
  · exact .inl rfl
  · exact .inr (by simp)
theorem Stb.lt {w w2 W : World} {L : List (Nat × Array Value)} (h : Stb w w2 W L) : ∀ p ∈ L, p.1 < W.heap.size := fun p hp => (h.kp p hp).lt
theorem Stb.below {w w2 W W' : World} {L : List (Nat × Array Value)} (h : Stb w w2 W L) (hb : Below W.heap.size W W') : Stb w w2 W' L :=
  ⟨h.b0.trans (hb.mono h.b0.size), h.b2.trans (hb.mono h.b2.size), fun p hp => (h.kp p hp).below hb (h.kp p hp).lt⟩
theorem Stb.sub {w w2 W : World} {L L' : List (Nat × Array Value)} (h : Stb w w2 W L) (hs : ∀ p ∈ L', p ∈ L) : Stb w w2 W L' := ⟨h.b0, h.b2, fun p hp => h.kp p (hs p hp)⟩
theorem Stb.set {w w2 W : World} {t : Nat} {cs : Array Value} {L : List (Nat × Array Value)} (h : Stb w w2 W ((t, cs) :: L)) (hne : ∀ p ∈ L, p.1 ≠ t) (ht : w2.heap.size ≤ t) (hw : w.heap.size ≤ w2.heap.size) (cs' : Array Value) : Stb w w2 (W.setRow t cs') ((t, cs') :: L) := by
  refine ⟨below_row h.b0 (Nat.le_trans hw ht) _, below_row h.b2 ht _, fun p hp => ?_⟩
  rcases List.mem_cons.1 hp with rfl | hp
  · exact (h.kp (t, cs) (List.mem_cons_self ..)).row _
  · exact (h.kp p (List.mem_cons_of_mem _ hp)).row_far (hne p hp) _
theorem Stb.cons {w w2 W : World} {t : Nat} {cs : Array Value} {L : List (Nat × Array Value)} (h : Stb w w2 W L) (hb : Blk W t 63 cs) : Stb w w2 W ((t, cs) :: L) :=
  ⟨h.b0, h.b2, fun p hp => by
    rcases List.mem_cons.1 hp with rfl | hp
    · exact hb
    · exact h.kp p hp⟩
theorem Stb.spoil {w w2 W W' : World} {L : List (Nat × Array Value)} {X : Menu} {A : Option Addr} {n c : Nat} (h : Stb w w2 W L) (o : OwnA w2 W L X A n c) (hw : w.heap.size ≤ w2.heap.size) (hg : W.grownBy W' (Value.slice A n c).ownBlock) : Stb w w2 W' L :=
  ⟨h.b0.grown hg h.b0.size (fun q hq => Nat.le_trans hw (o.own.lt q hq).1), h.b2.grown hg h.b2.size (fun q hq => (o.own.lt q hq).1), fun p hp => (h.kp p hp).grown hg (fun e => o.ne p hp e.symm)⟩
theorem OwnA.below {w2 W W' : World} {L : List (Nat × Array Value)} {X : Menu} {A : Option Addr} {n c : Nat} (o : OwnA w2 W L X A n c) (hb : Below W.heap.size W W') : OwnA w2 W' L X A n c := ⟨own_keeps o.own hb, o.ne⟩
theorem OwnA.set {w2 W : World} {t : Nat} {cs cs' : Array Value} {L : List (Nat × Array Value)} {X : Menu} {A : Option Addr} {n c : Nat} (o : OwnA w2 W ((t, cs) :: L) X A n c) : OwnA w2 (W.setRow t cs') ((t, cs') :: L) X A n c :=
  ⟨own_row o.own (o.ne (t, cs) (List.mem_cons_self ..)) _, fun p hp => by
    rcases List.mem_cons.1 hp with rfl | hp
    · exact o.ne (t, cs) (List.mem_cons_self ..)
    · exact o.ne p (List.mem_cons_of_mem _ hp)⟩
theorem OwnA.sub {w2 W : World} {L L' : List (Nat × Array Value)} {X : Menu} {A : Option Addr} {n c : Nat} (o : OwnA w2 W L X A n c) (hs : ∀ p ∈ L', ∃ q ∈ L, q.1 = p.1) : OwnA w2 W L' X A n c :=
  ⟨o.own, fun p hp => by obtain ⟨q, hq, e⟩ := hs p hp; rw [← e]; exact o.ne q hq⟩
/-- The new variable's block is no row of generations that was there. -/
theorem OwnA.new {w2 W W' : World} {t : Nat} {cs : Array Value} {L : List (Nat × Array Value)} {X : Menu} {A : Option Addr} {n c : Nat} (o : OwnA w2 W L X A n c) (ht : W.heap.size ≤ t) (hb : Below W.heap.size W W') : OwnA w2 W' ((t, cs) :: L) X A n c :=
  ⟨own_keeps o.own hb, fun p hp => by
    rcases List.mem_cons.1 hp with rfl | hp
    · exact fun e => by have := (o.own.lt _ e).2; simp only at this; omega
    · exact o.ne p hp⟩
theorem OwnA.gens {w2 W : World} {L : List (Nat × Array Value)} {X : Menu} {A : Option Addr} {n c : Nat} (o : OwnA w2 W L X A n c) : GensAt W W.heap.size A n c X.gens := own_gens o.own

/-- What a call gives is kept in a new variable. -/
theorem grp_new {w w2 W W1 : World} {L : List (Nat × Array Value)} {X : Menu} {v : Value} (h : Stb w w2 W L) (hg : MenuGot W W1 X v) : ∃ A n c W1', v = menuV X A n c ∧
    (StoreS 63 (.pointer (some ⟨W1.heap.size, 0, none⟩)) v).run Tryd.prog (W1.alloc (.cells #[.int .i64 0, .int .i64 0, .int .i64 0, .int .i64 0, .slice none 0 0] 63)) = .ok () W1' ∧
    (LoadS 63 (.pointer (some ⟨W1.heap.size, 0, none⟩))).run Tryd.prog W1' = .ok (menuV X A n c) W1' ∧ Stb w w2 W1' ((W1.heap.size, mnCells X A n c) :: L) ∧ OwnA w2 W1' ((W1.heap.size, mnCells X A n c) :: L) X A n c ∧ Below W.heap.size W W1' ∧ W1'.heap.size = W1.heap.size + 1 ∧ W.heap.size ≤ W1.heap.size := by
  obtain ⟨A, n, c, rfl, ho, hb⟩ := hg
  obtain ⟨h1, h2, h3⟩ := new_menu W1 X A n c
  have hL := h.lt
  have ho' := own_mono ho h.b2.size
  refine ⟨A, n, c, _, rfl, h1, h2.load, ((h.below hb).below h3).cons h2, OwnA.new (L := L) ⟨ho', fun p hp e => ?_⟩ (Nat.le_refl _) h3, hb.trans (h3.mono hb.size), by simp [World.setRow], hb.size⟩
  have := (ho.lt _ e).1
  have := hL p hp
  omega
/-- .. or in an old one. -/
theorem grp_set {w w2 W W1 : World} {t : Nat} {cs : Array Value} {L : List (Nat × Array Value)} {X : Menu} {v : Value} (h : Stb w w2 W ((t, cs) :: L)) (hne : ∀ p ∈ L, p.1 ≠ t) (ht : w2.heap.size ≤ t) (hw : w.heap.size ≤ w2.heap.size) (hc : cs.size = 5) (hg : MenuGot W W1 X v) : ∃ A n c W1', v = menuV X A n c ∧
    (StoreS 63 (.pointer (some ⟨t, 0, none⟩)) v).run Tryd.prog W1 = .ok () W1' ∧
    (LoadS 63 (.pointer (some ⟨t, 0, none⟩))).run Tryd.prog W1' = .ok (menuV X A n c) W1' ∧ Stb w w2 W1' ((t, mnCells X A n c) :: L) ∧ OwnA w2 W1' ((t, mnCells X A n c) :: L) X A n c ∧
    (∀ {Y : Menu} {A' : Option Addr} {n' c' : Nat}, OwnA w2 W ((t, cs) :: L) Y A' n' c' → OwnA w2 W1' ((t, mnCells X A n c) :: L) Y A' n' c') := by
  obtain ⟨A, n, c, rfl, ho, hb⟩ := hg
  have h1 := h.below hb
  obtain ⟨h2, h3⟩ := MenuBlk.store (h1.kp (t, cs) (List.mem_cons_self ..)) hc X A n c
  have hL := h.lt
  refine ⟨A, n, c, _, rfl, h2, h3.load, h1.set hne ht hw _, OwnA.set (cs := cs) ⟨own_mono ho h.b2.size, fun p hp e => ?_⟩, fun {Y A' n' c'} o => (o.below hb).set⟩
  have := (ho.lt _ e).1
  have := hL p hp
  omega
end Go.Proofs.YtdhlklidenfbeaaDoor
