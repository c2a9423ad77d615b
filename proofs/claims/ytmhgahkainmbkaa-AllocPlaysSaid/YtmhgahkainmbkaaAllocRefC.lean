/- The walks of the space by definition: Clone and New. -/
import Derived.Test.YtmhgahkainmbkaaAllocRefF
import Derived.Deep.DrawnRows
namespace Go.Proofs.Ytmhgahkainmbkaa
open Go.RowKit
set_option linter.unusedVariables false
set_option linter.unusedSimpArgs false
/-- What was there is there as it was. -/
def Ext (a b : World) : Prop := Below a.heap.size a b
section
variable {a b c : World} {g : Nat} {t : TypeId} {cs : Array Value}
theorem Ext.refl (a : World) : Ext a a := Below.refl _ _
theorem Ext.trans (h : Ext a b) (k : Ext b c) : Ext a c := Below.trans h (Below.mono k h.size)
theorem Ext.alloc (h : Ext a b) (o : Obj) : Ext a (b.alloc o) := Below.alloc h h.size o
theorem Ext.drew (h : Ext a b) : Ext a b.drew := Below.drew h
theorem Ext.size (h : Ext a b) : a.heap.size ≤ b.heap.size := Below.size h
theorem Blk.ext (h : Blk a g t cs) (e : Ext a b) : Blk b g t cs := h.below e h.lt
theorem Blk.newAt (W : World) (t : TypeId) (cs : Array Value) {g : Nat} (hg : g = W.heap.size) : Blk (W.alloc (.cells cs t)) g t cs := by subst hg; exact Blk.new W t cs
end
/-- append at a step of a region that draws its order, by what its run is known to give. -/
theorem step_append_ex {P : Program} {ops : Array Oper} {o : Oper} {a : Act} {w : World} {K : Act → World → Prop} {Q : Exit → Act → World → Prop} {E : Prop} (hgd : o.guard = none) (s x : Operand) (t : TypeId)
    (ho : o.op = .call { callee := .builtin .append, args := #[s, x], argTypes := #[t, t] }) {v y : Value} (hs : a.eval s = v) (hx : a.eval x = y) (Φ : Value → World → Prop)
    (hrun : ∃ v' w', (Builtin.append_ #[t, t] o.type #[v, y]).run P w = .ok v' w' ∧ Φ v' w') (h : ∀ v' w', Φ v' w' → K (a.put o.dst v') w') :
    if Region.wanted o (yielded ops a.tmps) = true then Oper.wp P o a w K Q else E := by
  have hw : Region.wanted o (yielded ops a.tmps) = true := by simp [Region.wanted, hgd]
  rw [if_pos hw]
  obtain ⟨v', w', hr, hΦ⟩ := hrun
  exact wp_append_run s x t ho hs hx hr (h v' w' hΦ)
/-- What append onto a new empty row of bools gives. -/
def NewB (W : World) (l : List Bool) (v : Value) (W' : World) : Prop := ∃ g cap, v = .slice (some ⟨g, 0, none⟩) l.length cap ∧ BRow W' g cap l ∧ W.heap.size ≤ g ∧ Ext W W'
def NewI (W : World) (l : List Nat) (v : Value) (W' : World) : Prop := ∃ A c, v = .slice A l.length c ∧ Ext W W' ∧ IRow W' (fun k => W.heap.size ≤ k ∧ k < W'.heap.size) (.slice A l.length c) l
section
variable {w W : World} {g gb cb : Nat}
theorem own_zero {base : Nat} {t : TypeId} {sz : Nat} {v : Value} {n : Nat} {xs : List Value} (h : W.ownsRow base t sz v n xs) : W.ownsRow 0 t sz v n xs := by
  refine ⟨h.1, ?_⟩
  rcases h.2 with h1 | ⟨g, cap, cur, hv, _, h2⟩
  · exact .inl h1
  · exact .inr ⟨g, cap, cur, hv, Nat.zero_le _, h2⟩
theorem newB_of {l : List Bool} (h0 : 0 < l.length) (hl : l.length ≤ 2000) (h : Slc W W.heap.size 1 (some ⟨gb, 0, none⟩) l.length cb (l.map Value.bool)) :
    ∃ v' w', (Builtin.append_ #[55, 55] 55 #[.slice (some ⟨g, 0, none⟩) 0 0, .slice (some ⟨gb, 0, none⟩) l.length cb]).run Try.prog W = .ok v' w' ∧ NewB W l v' w' := by
  obtain ⟨i, hi, hz, hs, hbb⟩ := info_parts bool_info
  rw [append_cap0 (P := Try.prog) Try.underlying55 hi h0 (by rw [hbb]; omega)]
  obtain ⟨A', c', w', hr, ho, hg, _⟩ := append_slc (P := Try.prog) W W.heap.size 55 55 4 i _ 1 1 Try.underlying55 hi hz hs hbb rfl (by decide) (.slice none 0 0) 0 [] (World.ownsRow_nil W W.heap.size 4 1) W.heap.size (some ⟨gb, 0, none⟩) l.length cb _ h (fun u hu => by
    obtain ⟨b, _, rfl⟩ := List.mem_map.1 hu; rfl) (by unfold maxLen; omega) (by omega) (Nat.le_refl _)
  simp only [Nat.zero_add, List.nil_append] at hr ho
  obtain ⟨g', cap, hv, hge, hrow⟩ := BRow.of_own ho h0
  exact ⟨_, w', hr, g', cap, hv, hrow, hge, (Below.refl _ _).grown hg (Nat.le_refl _) (fun j hj => by simp [Value.ownBlock] at hj)⟩
theorem newI_of {l : List Nat} (hl : l.length ≤ 4000) {A : Option Addr} {c : Nat} (h : Slc W W.heap.size 1 A l.length c (l.map iv)) :
    ∃ v' w', (Builtin.append_ #[53, 53] 53 #[.slice (some ⟨g, 0, none⟩) 0 0, .slice A l.length c]).run Try.prog W = .ok v' w' ∧ NewI W l v' w' := by
  obtain ⟨i, hi, hz, hs, hbb⟩ := info_parts int_info
  rcases Nat.eq_zero_or_pos l.length with h0 | h0
  · have hn : l = [] := List.eq_nil_of_length_eq_zero h0
    subst hn
    refine ⟨.slice (some ⟨g, 0, none⟩) 0 0, W, ?_, some ⟨g, 0, none⟩, 0, rfl, Ext.refl _, IRow.nil _ _ _⟩
    cases A with
    | none => simp [Builtin.append_, run_underlying Try.underlying53, sizeOf, typeInfo, hi, Builtin.lenOf, Builtin.firstCells, storeCells]
    | some a =>
      have hl : ∀ w : World, (loadCells a 0).run Try.prog w = .ok #[] w := fun w => rfl
      simp [Builtin.append_, run_underlying Try.underlying53, sizeOf, typeInfo, hi, Builtin.lenOf, Builtin.firstCells, storeCells, hl]
  · rw [append_cap0 (P := Try.prog) Try.underlying53 hi h0 (by rw [hbb]; omega)]
    obtain ⟨A', c', w', hr, ho, hg, _⟩ := append_slc (P := Try.prog) W W.heap.size 53 53 3 i _ 1 8 Try.underlying53 hi hz hs hbb rfl (by decide) (.slice none 0 0) 0 [] (World.ownsRow_nil W W.heap.size 3 1) W.heap.size A l.length c _ h (fun u hu => by
      obtain ⟨b, _, rfl⟩ := List.mem_map.1 hu; rfl) (by unfold maxLen; omega) (by omega) (Nat.le_refl _)
    simp only [Nat.zero_add, List.nil_append] at hr ho
    refine ⟨_, w', hr, A', c', rfl, (Below.refl _ _).grown hg (Nat.le_refl _) (fun j hj => by simp [Value.ownBlock] at hj), ⟨.inr ⟨own_zero ho, fun j hj => ho.lt j hj⟩⟩⟩
end
theorem build_rs_mark (parts : Array (Nat × Value)) : Instr.build 103 parts = BuildS 103 parts := rfl
theorem build_rs (n : Nat) (g1 n1 c1 g2 n2 c2 : Nat) (A : Option Addr) (n3 c3 : Nat) (W : World) : Sem.run Try.prog (BuildS 103 #[(0, .agg (refCells n (lData n)).toArray), (1, .slice (some ⟨g1, 0, none⟩) n1 c1), (2, .slice (some ⟨g2, 0, none⟩) n2 c2), (3, .slice A n3 c3)]) W = .ok (.agg (refV n g1 n1 c1 g2 n2 c2 (.slice A n3 c3)).toArray) W := by kernel_rfl
section
variable {w w' : World} {F G K : Nat → Prop} {pr n gb cb gi ci : Nat} {sv : Value} {R : RefM}
theorem IRow.ext {v : Value} {l : List Nat} {F : Nat → Prop} {a b : World} (h : IRow a F v l) (e : Ext a b) {G : Nat → Prop} (hG : ∀ k, F k → G k) : IRow b G v l := h.kept (fun k _ hlt => Below.block e k hlt) hG
theorem BRow.ext {a b : World} {g cap : Nat} {l : List Bool} (h : BRow a g cap l) (e : Ext a b) : BRow b g cap l := h.same (Below.block e g h.lt)
/-- A copy: of rows that stand where they were made. -/
theorem RefParts.built {W W1 W2 W3 : World} {g1 k1 g2 k2 : Nat} {A : Option Addr} {k3 : Nat} {F3 : Nat → Prop} {B : Nat}
    (h1 : BRow W1 g1 k1 R.blk) (h2 : BRow W2 g2 k2 R.ino) (h3 : IRow W3 F3 (.slice A R.stg.length k3) R.stg) (e1 : Ext W1 W) (e2 : Ext W2 W) (e3 : Ext W3 W) (b1 : B ≤ g1) (b2 : B ≤ g2) (hne : g1 ≠ g2) (b0 : B ≤ W.heap.size) (hF : ∀ k, F3 k → B ≤ k ∧ k < W3.heap.size) :
    RefAt (W.alloc (.cells (refV n g1 R.blk.length k1 g2 R.ino.length k2 (.slice A R.stg.length k3)).toArray 103)) (fun k => B ≤ k ∧ k < W.heap.size + 1) W.heap.size n R := by
  have hX := (Ext.refl W).alloc (.cells (refV n g1 R.blk.length k1 g2 R.ino.length k2 (.slice A R.stg.length k3)).toArray 103)
  have l1 := (h1.ext e1).lt
  have l2 := (h2.ext e2).lt
  have s3 := e3.size
  exact ⟨g1, k1, g2, k2, _, Blk.new _ _ _, (h1.ext e1).ext hX, (h2.ext e2).ext hX, (h3.ext e3 (fun _ h => h)).ext hX (fun k hk => by have := hF k hk; omega), hne, ⟨b0, by omega⟩, ⟨b1, by omega⟩, ⟨b2, by omega⟩, fun k hk => by simp; exact hk.2⟩
attribute [local go_sem ↓] load_ref_mark build_rs_mark Go.wp_at_zero Go.wp_at_succ
attribute [local go_sem] build_rs
set_option maxRecDepth 100000 in
set_option maxHeartbeats 20000000 in
theorem refClone_any (h : RefAt w F pr n R) (hb0 : 0 < R.blk.length) (hb1 : R.blk.length ≤ 2000) (hi0 : 0 < R.ino.length) (hi1 : R.ino.length ≤ 2000) (hs : R.stg.length ≤ 4000) :
    Calls Try.prog 26 #[.pointer (some ⟨pr, 0, none⟩)] w fun e w' => ∃ q F', e = .returned (.pointer (some ⟨q, 0, none⟩)) ∧ Ext w w' ∧ RefAt w' F' q n R ∧ ∀ k, F' k → w.heap.size ≤ k := by
  obtain ⟨gb, cb, gi, ci, sv, h⟩ := h
  obtain ⟨A, c, rfl, hS⟩ := h.stg.slc
  have HK := Lib.hid (fun (W : World) (e : Ext w W) => show (LoadS 29 (.pointer (some ⟨pr, 0, none⟩))).run Try.prog W = .ok (.agg (refCells n (lData n)).toArray) W ∧ W.cell? ⟨pr, 7, none⟩ = some (.slice (some ⟨gb, 0, none⟩) R.blk.length cb) ∧ W.cell? ⟨pr, 8, none⟩ = some (.slice (some ⟨gi, 0, none⟩) R.ino.length ci) ∧ W.cell? ⟨pr, 9, none⟩ = some (.slice A R.stg.length c) by
    have hB := h.head.ext e
    refine ⟨?_, hB.cell 7, hB.cell 8, hB.cell 9⟩
    have := LoadS.of_blk (P := Try.prog) (ty := 29) (o := 0) (n := 7) hB Try.underlying29 rfl i_ref (by simp [refV, refCells])
    rw [show (refV n gb R.blk.length cb gi R.ino.length ci (.slice A R.stg.length c)).toArray.extract 0 (0 + 7) = (refCells n (lData n)).toArray by simp [refV, refCells]] at this
    exact this)
  have HB := Lib.hid (fun (W : World) (g : Nat) (e : Ext w W) => newB_of (W := W) (g := g) hb0 hb1 ((h.blk.ext e).slc))
  have HI := Lib.hid (fun (W : World) (g : Nat) (e : Ext w W) => newB_of (W := W) (g := g) hi0 hi1 ((h.ino.ext e).slc))
  have HS := Lib.hid (fun (W : World) (g : Nat) (e : Ext w W) => newI_of (W := W) (g := g) hs ((hS.below e).more e.size))
  obtain ⟨k0, k7, k8, k9⟩ := HK.out w.drew (Ext.refl _).drew
  clear h hS hb0 hb1 hi0 hi1 hs
  have hE := (Ext.refl w).drew
  go_enter Try.func26, Try.ntmps26
  go_wp2_with fail
  go_region_held3 (fun W => (LoadS 29 (.pointer (some ⟨pr, 0, none⟩))).run Try.prog W = .ok (.agg (refCells n (lData n)).toArray) W ∧ W.cell? ⟨pr, 7, none⟩ = some (.slice (some ⟨gb, 0, none⟩) R.blk.length cb) ∧ W.cell? ⟨pr, 8, none⟩ = some (.slice (some ⟨gi, 0, none⟩) R.ino.length ci) ∧ W.cell? ⟨pr, 9, none⟩ = some (.slice A R.stg.length c)) (exact HK.out _ (by (repeat (first | exact Ext.refl _ | assumption | refine Ext.alloc ?_ _ | refine Ext.drew ?_ | refine Ext.trans ?_ (by assumption))))) (first | (refine step_append_ex (by rfl) _ _ _ (by rfl) (by rfl) (by rfl) _ (HB.out _ _ (by (repeat (first | exact Ext.refl _ | assumption | refine Ext.alloc ?_ _ | refine Ext.drew ?_ | refine Ext.trans ?_ (by assumption))))) ?_; rintro v1 w1 ⟨g1, k1, rfl, hr1, hg1, he1⟩) | (refine step_append_ex (by rfl) _ _ _ (by rfl) (by rfl) (by rfl) _ (HI.out _ _ (by (repeat (first | exact Ext.refl _ | assumption | refine Ext.alloc ?_ _ | refine Ext.drew ?_ | refine Ext.trans ?_ (by assumption))))) ?_; rintro v2 w2 ⟨g2, k2, rfl, hr2, hg2, he2⟩) | (refine step_append_ex (by rfl) _ _ _ (by rfl) (by rfl) (by rfl) _ (HS.out _ _ (by (repeat (first | exact Ext.refl _ | assumption | refine Ext.alloc ?_ _ | refine Ext.drew ?_ | refine Ext.trans ?_ (by assumption))))) ?_; rintro v3 w3 ⟨A3, k3, rfl, he3, hr3⟩))
  all_goals
    have z1 := he1.size
    have z2 := he2.size
    have z3 := he3.size
    have l1 := hr1.lt
    have l2 := hr2.lt
    (try simp only [World.size_alloc, World.size_drew] at z1 z2 z3 hg1 hg2)
    have e2 : Ext w2 w3 := by (repeat (first | exact Ext.refl _ | assumption | refine Ext.alloc ?_ _ | refine Ext.drew ?_ | refine Ext.trans ?_ (by assumption)))
    have e1 : Ext w1 w3 := by (repeat (first | exact Ext.refl _ | assumption | refine Ext.alloc ?_ _ | refine Ext.drew ?_ | refine Ext.trans ?_ (by assumption)))
    have e0 : Ext w w3 := by (repeat (first | exact Ext.refl _ | assumption | refine Ext.alloc ?_ _ | refine Ext.drew ?_ | refine Ext.trans ?_ (by assumption)))
    have hfin := RefParts.built (n := n) (R := R) (B := w.heap.size) hr1 hr2 hr3 e1 e2 (Ext.refl _) (by omega) (by omega) (by omega) (by omega) (fun k hk => by (try simp only [World.size_alloc, World.size_drew] at hk); omega)
    have HF := Lib.hid (And.intro (Ext.alloc e0 (.cells (refV n g1 R.blk.length k1 g2 R.ino.length k2 (.slice A3 R.stg.length k3)).toArray 103)) hfin)
    clear z1 z2 z3 l1 l2 e1 e2 e0 hfin hr1 hr2 hr3 he1 he2 he3 hg1 hg2 hE k0 k7 k8 k9
    go_wp2_with fail
    go_ret
    exact ⟨_, _, rfl, HF.out.1, HF.out.2, fun k hk => hk.1⟩
end
end Go.Proofs.Ytmhgahkainmbkaa
