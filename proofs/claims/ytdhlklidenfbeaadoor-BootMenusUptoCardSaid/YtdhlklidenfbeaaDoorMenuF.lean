/- The walk of the reference's Remove (layer 22). -/
import Derived.Test.YtdhlklidenfbeaaDoorMenuE
namespace Go.Proofs.YtdhlklidenfbeaaDoor
open Go.RowKit
set_option linter.unusedVariables false
set_option linter.unusedSimpArgs false

/-- append at a step of a region that draws its order, by what its run is known to give. -/
theorem step_append_ex {P : Program} {ops : Array Oper} {o : Oper} {a : Act} {w : World} {K : Act → World → Prop} {Q : Exit → Act → World → Prop} {E : Prop} (hgd : o.guard = none) (s x : Operand) (t : TypeId)
    (ho : o.op = .call { callee := .builtin .append, args := #[s, x], argTypes := #[t, t] }) {v y : Value} (hs : a.eval s = v) (hx : a.eval x = y) (Φ : Value → World → Prop)
    (hrun : ∃ v' w', (Builtin.append_ #[t, t] o.type #[v, y]).run P w = .ok v' w' ∧ Φ v' w') (h : ∀ v' w', Φ v' w' → K (a.put o.dst v') w') :
    if Region.wanted o (yielded ops a.tmps) = true then Oper.wp P o a w K Q else E := by
  have hw : Region.wanted o (yielded ops a.tmps) = true := by simp [Region.wanted, hgd]
  rw [if_pos hw]
  obtain ⟨v', w', hr, hΦ⟩ := hrun
  exact wp_append_run s x t ho hs hx hr (h v' w' hΦ)
theorem dropG_miss (l : List Gen) (num : Int) (k : Nat) (hk : k < l.length) (h : l[k].num = num) : dropG (l.take (k + 1)) num = dropG (l.take k) num := by
  unfold dropG
  rw [List.take_succ_eq_append_getElem hk, List.filter_append]
  simp [h]
theorem dropG_keep (l : List Gen) (num : Int) (k : Nat) (hk : k < l.length) (h : l[k].num ≠ num) : dropG (l.take (k + 1)) num = dropG (l.take k) num ++ [l[k]] := by
  unfold dropG
  rw [List.take_succ_eq_append_getElem hk, List.filter_append]
  simp [h]
def zeroC : Array Value := #[.int .i64 0, .int .i64 0, .int .i64 0, .int .i64 0, .slice none 0 0]
/-- The reference's Remove at work: its own menu (block M), the one that it gives back (R), the one that it was handed (T). -/
structure RemAt (w wr : World) (M R T : Nat) (m : Menu) (A : Option Addr) (n c : Nat) (l : List Gen) (A8 : Option Addr) (j k8 : Nat) : Prop where
  mine : Blk wr M 63 #[.int .i64 m.last, .int .i64 m.def_, .int .i64 m.next, .int .i64 m.trial, .slice A8 j k8]
  ret : Blk wr R 63 zeroC
  box : MenuBlk wr T m A n c
  own : wr.ownsRow w.heap.size 69 2 (.slice A8 j k8) j (l.flatMap genCells)
  nM : (Value.slice A8 j k8).ownBlock ≠ some M
  nR : (Value.slice A8 j k8).ownBlock ≠ some R
  nT : (Value.slice A8 j k8).ownBlock ≠ some T
  bel : Below w.heap.size w wr
  mr : M ≠ R
  mt : M ≠ T
  low : w.heap.size ≤ M
theorem RemAt.drew {w wr : World} {M R T : Nat} {m : Menu} {A : Option Addr} {n c : Nat} {l : List Gen} {A8 : Option Addr} {j k8 : Nat} (h : RemAt w wr M R T m A n c l A8 j k8) : RemAt w wr.drew M R T m A n c l A8 j k8 :=
  ⟨h.mine, h.ret, h.box, h.own, h.nM, h.nR, h.nT, h.bel.drew, h.mr, h.mt, h.low⟩
def RemGot (w : World) (M R T : Nat) (m : Menu) (A : Option Addr) (n c : Nat) (l : List Gen) (A8 : Option Addr) (j k8 : Nat) (v : Value) (w8 : World) : Prop :=
  ∃ A9 k9, v = .slice A9 (j + 1) k9 ∧ RemAt w (w8.setCell ⟨M, 4, none⟩ (.slice A9 (j + 1) k9)) M R T m A n c l A9 (j + 1) k9 ∧ w8.cell? ⟨M, 4, none⟩ = some (.slice A8 j k8) ∧ w8.frozen? ⟨M, 4, none⟩ = false ∧ MenuBlk w8 T m A n c ∧ (∀ p : Addr, p.block < w.heap.size → w8.cell? p = w.cell? p)
theorem RemAt.append {w wr : World} {M R T : Nat} {m : Menu} {A : Option Addr} {n c : Nat} {l : List Gen} {A8 : Option Addr} {j k8 : Nat} (h : RemAt w wr M R T m A n c l A8 j k8) (hj : j ≤ 1000000000) (g : Gen) :
    ∃ v' w', (Builtin.append_ #[61, 61] 61 #[.slice A8 j k8, .slice (some ⟨wr.heap.size, 0, none⟩) 1 1]).run Tryd.prog (wr.alloc (.cells #[.int .i64 g.num, .string ⟨g.path.toArray⟩] 69)) = .ok v' w' ∧ RemGot w M R T m A n c (l ++ [g]) A8 j k8 v' w' := by
  have hk : GensAt (wr.alloc (.cells #[.int .i64 g.num, .string ⟨g.path.toArray⟩] 69)) (wr.heap.size + 1) (some ⟨wr.heap.size, 0, none⟩) 1 1 [g] :=
    ⟨slc_new wr 69 (0, 0) #[.int .i64 g.num, .string ⟨g.path.toArray⟩] (sz := 2) (n := 1) (c := 1) rfl (Nat.le_refl _) (by decide), rfl⟩
  have hsz := h.bel.size
  obtain ⟨A9, k9, w8, h1, h2, h3, h4⟩ := append_gens (wr.alloc (.cells #[.int .i64 g.num, .string ⟨g.path.toArray⟩] 69)) w.heap.size _ j l (h.own.alloc _) hk (by omega) (by simp; omega)
  have hML := h.mine.lt
  have hRL := h.ret.lt
  have hTL := h.box.lt
  have hne : ∀ X, X < wr.heap.size → (Value.slice A8 j k8).ownBlock ≠ some X → (Value.slice A9 (j + 1) k9).ownBlock ≠ some X := fun X hX hx => by
    rcases h4 with h4 | h4
    · rw [h4]; exact hx
    · rw [h4]; simp; omega
  have hM8 := (h.mine.alloc (.cells #[.int .i64 g.num, .string ⟨g.path.toArray⟩] 69)).grown h3 (fun e => h.nM e.symm)
  have hR8 := (h.ret.alloc (.cells #[.int .i64 g.num, .string ⟨g.path.toArray⟩] 69)).grown h3 (fun e => h.nR e.symm)
  have hT8 : MenuBlk w8 T m A n c := (Blk.alloc h.box (.cells #[.int .i64 g.num, .string ⟨g.path.toArray⟩] 69)).grown h3 (fun e => h.nT e.symm)
  have hb8 := (h.bel.alloc hsz (.cells #[.int .i64 g.num, .string ⟨g.path.toArray⟩] 69)).grown h3 (by simp; omega) (fun q hq => (h.own.lt q hq).1)
  have hM9 := hM8.set_ 4 (.slice A9 (j + 1) k9)
  simp only [List.setIfInBounds_toArray, List.set_cons_zero, List.set_cons_succ] at hM9
  refine ⟨_, w8, h1, A9, k9, rfl, ⟨hM9, hR8.far (fun e => h.mr e.symm) _, Blk.far hT8 (fun e => h.mt e.symm) _, own_set h2 (hne M hML h.nM) _, hne M hML h.nM, hne R hRL h.nR, hne T hTL h.nT, hb8.setCell h.low _, h.mr, h.mt, h.low⟩, hM8.cell 4, hM8.frozen 4, hT8, fun p hp => hb8.cell hp⟩
end Go.Proofs.YtdhlklidenfbeaaDoor
