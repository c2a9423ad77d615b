/- A text put into a list: append(append(append([]string{}, l[:at]...), s), l[at:]...), in whatever order its parts are made. A range over a function whose iterator keeps its state in a cell: no program in sight. strings.SplitSeq at "/": what its iterator gives. -/
import Derived.Test.YtibndaianhlcaaaDoorPart3
import Derived.RangeFuncNested
import Derived.RangeFuncBound
import Derived.RangeFuncCalls
import Derived.RangeFuncLeaves
import Derived.RangeFuncKeeps
import Derived.WalkKit
import Derived.OwnWalkIn
import Derived.TacticsInMore
import Derived.LoopNIn
import Derived.LoopIn
import Derived.Test.YtibndaianhlcaaaDoorPart2
import Derived.Shelf.Abstract
import Derived.Shelf.RegionOpen
namespace Go.Proofs.YtibndaianhlcaaaDoor
open Go.RowKit Go.Sort
set_option linter.unusedVariables false
set_option linter.unusedSimpArgs false

/-- append at a step of a region that draws its order, by its run. -/
theorem step_append_eq {P : Program} {ops : Array Oper} {o : Oper} {a : Act} {w w' : World} {K : Act → World → Prop} {Q : Exit → Act → World → Prop} {E : Prop} (hgd : o.guard = none) (s x : Operand) (t : TypeId)
    (ho : o.op = .call { callee := .builtin .append, args := #[s, x], argTypes := #[t, t] }) {v y v' : Value} (hs : a.eval s = v) (hx : a.eval x = y)
    (hrun : (Builtin.append_ #[t, t] o.type #[v, y]).run P w = .ok v' w') (h : K (a.put o.dst v') w') :
    if Region.wanted o (yielded ops a.tmps) = true then Oper.wp P o a w K Q else E := by
  have hw : Region.wanted o (yielded ops a.tmps) = true := by simp [Region.wanted, hgd]
  rw [if_pos hw]
  exact wp_append_run s x t ho hs hx hrun h

theorem step_append_at {P : Program} {ops : Array Oper} {o : Oper} {a : Act} {w w0 w' : World} {K : Act → World → Prop} {Q : Exit → Act → World → Prop} {E : Prop} (hgd : o.guard = none) (s x : Operand) (t : TypeId)
    (ho : o.op = .call { callee := .builtin .append, args := #[s, x], argTypes := #[t, t] }) {v y v' : Value} {ty : TypeId}
    (hrun : (Builtin.append_ #[t, t] ty #[v, y]).run P w0 = .ok v' w') (hw : w = w0) (hty : o.type = ty) (hs : a.eval s = v) (hx : a.eval x = y) (h : K (a.put o.dst v') w') :
    if Region.wanted o (yielded ops a.tmps) = true then Oper.wp P o a w K Q else E := by
  subst hw hty
  exact step_append_eq hgd s x t ho hs hx hrun h

/-- l[k:] as a value: at the end of what it has room for it keeps its address. -/
def tailV (A : Option Addr) (n c k : Nat) : Value := match A with
  | none => .slice none 0 0
  | some a => if k = c then .slice (some a) 0 0 else .slice (some (a.add k)) (n - k) (c - k)
theorem slc_tail {w : World} {B : Nat} {A : Option Addr} {n c : Nat} {xs : List Value} (h : Slc w B 1 A n c xs) {k : Nat} (hk : k ≤ n) : ∃ A' c', tailV A n c k = .slice A' (n - k) c' ∧ Slc w B 1 A' (n - k) c' (xs.drop k) := by
  have hl := h.len
  have hnc := h.le
  have hcm := h.cmax
  unfold tailV
  cases A with
  | none =>
    have h0 : n = 0 := by
      rcases Nat.eq_zero_or_pos n with h0 | h0
      · exact h0
      · obtain ⟨b, off, e, _⟩ := h.at_ h0
        cases e
    refine ⟨none, 0, by simp [h0], ⟨by simp; omega, by omega, Nat.zero_le _, fun hp => by omega⟩⟩
  | some a =>
    by_cases hkc : k = c
    · refine ⟨some a, 0, by simp only [if_pos hkc]; congr 1; omega, ⟨by simp; omega, by omega, Nat.zero_le _, fun hp => by omega⟩⟩
    · simp only [if_neg hkc]
      refine ⟨some (a.add k), c - k, rfl, ⟨by simp; omega, by omega, by omega, fun hp => ?_⟩⟩
      obtain ⟨b, off, e, hb, hc⟩ := h.at_ (by omega)
      injection e with e
      subst e
      refine ⟨b, off + k, by rw [addr_of_add], hb, fun j u hu => ?_⟩
      rw [Nat.add_assoc]
      exact hc (k + j) u (by rwa [List.getElem?_drop] at hu)

theorem ins_one {w W : World} {A : Option Addr} {n c : Nat} {L : List Txt} {B : Nat} (h : Slc w B 1 A n c (L.map encStr)) (hB : B ≤ w.heap.size) {k : Nat} (hk : k ≤ n) (hn : n ≤ 1000000000) {x : Nat} (hb : Below w.heap.size w W) (hx : W.heap[x]? = some (.cells #[] 9 (0, 0))) (hxb : w.heap.size ≤ x) :
    ∃ A1 c1 w1, (Builtin.append_ #[29, 29] 29 #[.slice (some ⟨x, 0, none⟩) 0 0, .slice A k c]).run Tryd.prog W = .ok (.slice A1 k c1) w1 ∧ w1.ownsRow w.heap.size 9 1 (.slice A1 k c1) k ((L.take k).map encStr) ∧ Below w.heap.size w w1 ∧ (∀ y, y < W.heap.size → y ≠ x → w1.heap[y]? = W.heap[y]?) ∧ W.heap.size ≤ w1.heap.size := by
  obtain ⟨i, hi, hz0, hz1, hz2⟩ := info_parts str_info
  have hown : W.ownsRow w.heap.size 9 1 (.slice (some ⟨x, 0, none⟩) 0 0) 0 [] := ⟨rfl, .inr ⟨x, 0, #[], rfl, hxb, hx, Nat.le_refl _, Nat.zero_le _, rfl, rfl⟩⟩
  have hs : Slc W B 1 A k c ((L.map encStr).take k) := (h.below (hb.mono hB)).upto hk
  obtain ⟨A', c', w', h1, h2, h3, h4⟩ := append_slc (P := Tryd.prog) W w.heap.size 29 29 _ i _ 1 16 Tryd.underlying29 hi hz0 hz1 hz2 rfl (by decide) _ 0 [] hown B A k c _ hs (fun u hu => by
    obtain ⟨t, _, rfl⟩ := List.mem_map.1 (List.mem_of_mem_take hu)
    rfl) (by unfold maxLen; omega) (by omega) hb.size
  rw [Nat.zero_add] at h1 h2
  refine ⟨A', c', w', h1, by rw [List.map_take]; exact h2, hb.grown h3 hb.size (fun q hq => by simp [Value.ownBlock] at hq; omega), fun y hy hne => h3.block y hy (fun e => by simp [Value.ownBlock] at e; omega), h3.size⟩
theorem ins_two {w W : World} {A : Option Addr} {n c : Nat} {L : List Txt} {B : Nat} (h : Slc w B 1 A n c (L.map encStr)) (hB : B ≤ w.heap.size) {k : Nat} (hk : k ≤ n) (hn : n ≤ 1000000000) {y : Nat} {s : Txt} {A1 : Option Addr} {c1 : Nat} (hb : Below w.heap.size w W)
    (ho : W.ownsRow w.heap.size 9 1 (.slice A1 k c1) k ((L.take k).map encStr)) (hy : W.heap[y]? = some (.cells #[.string ⟨s.toArray⟩] 9 (0, 0))) :
    ∃ A2 c2 w2 A3 c3 w3, (Builtin.append_ #[29, 29] 29 #[.slice A1 k c1, .slice (some ⟨y, 0, none⟩) 1 1]).run Tryd.prog W = .ok (.slice A2 (k + 1) c2) w2 ∧
      (Builtin.append_ #[29, 29] 29 #[.slice A2 (k + 1) c2, tailV A n c k]).run Tryd.prog w2 = .ok (.slice A3 (n + 1) c3) w3 ∧ w3.ownsRow w.heap.size 9 1 (.slice A3 (n + 1) c3) (n + 1) ((L.take k ++ s :: L.drop k).map encStr) ∧ Below w.heap.size w w3 := by
  obtain ⟨i, hi, hz0, hz1, hz2⟩ := info_parts str_info
  have hB' : Blk W y 9 #[.string ⟨s.toArray⟩] := hy
  have hs : Slc W (y + 1) 1 (some ⟨y, 0, none⟩) 1 1 [encStr s] := by
    have := hB'.slc (sz := 1) (n := 1) (c := 1) (Nat.le_refl _) (Nat.le_refl _) (by decide)
    exact this
  obtain ⟨A2, c2, w2, h1, h2, h3, h4⟩ := append_slc (P := Tryd.prog) W w.heap.size 29 29 _ i _ 1 16 Tryd.underlying29 hi hz0 hz1 hz2 rfl (by decide) _ k _ ho (y + 1) _ 1 1 [encStr s] hs (fun u hu => by rw [List.mem_singleton.1 hu]; rfl) (by unfold maxLen; omega) (by omega) hb.size
  have hb2 := hb.grown h3 hb.size (fun q hq => (ho.lt q hq).1)
  obtain ⟨At, ct, ht, hst⟩ := slc_tail (h.below (hb2.mono hB)) hk
  obtain ⟨A3, c3, w3, g1, g2, g3, g4⟩ := append_slc (P := Tryd.prog) w2 w.heap.size 29 29 _ i _ 1 16 Tryd.underlying29 hi hz0 hz1 hz2 rfl (by decide) _ (k + 1) _ h2 B At (n - k) ct _ hst (fun u hu => by
    obtain ⟨t, _, rfl⟩ := List.mem_map.1 (List.mem_of_mem_drop hu)
    rfl) (by unfold maxLen; omega) (by omega) hb2.size
  rw [show k + 1 + (n - k) = n + 1 by omega] at g1 g2
  refine ⟨A2, c2, w2, A3, c3, w3, h1, by rw [ht]; exact g1, ?_, hb2.grown g3 hb2.size (fun q hq => (h2.lt q hq).1)⟩
  have e : (L.take k).map encStr ++ [encStr s] ++ (L.map encStr).drop k = (L.take k ++ s :: L.drop k).map encStr := by simp
  rwa [e] at g2
/-- The three orders in which the parts may be made. -/
structure Ins3 (w : World) (A : Option Addr) (n c k : Nat) (s : Txt) (L : List Txt) (W : World) (x y : Nat) (A1 : Option Addr) (c1 : Nat) (w1 w1' : World) (A2 : Option Addr) (c2 : Nat) (w2 : World) (A3 : Option Addr) (c3 : Nat) (w3 : World) : Prop where
  r1 : (Builtin.append_ #[29, 29] 29 #[.slice (some ⟨x, 0, none⟩) 0 0, .slice A k c]).run Tryd.prog W = .ok (.slice A1 k c1) w1
  r2 : (Builtin.append_ #[29, 29] 29 #[.slice A1 k c1, .slice (some ⟨y, 0, none⟩) 1 1]).run Tryd.prog w1' = .ok (.slice A2 (k + 1) c2) w2
  r3 : (Builtin.append_ #[29, 29] 29 #[.slice A2 (k + 1) c2, tailV A n c k]).run Tryd.prog w2 = .ok (.slice A3 (n + 1) c3) w3
  own : w3.ownsRow w.heap.size 9 1 (.slice A3 (n + 1) c3) (n + 1) ((L.take k ++ s :: L.drop k).map encStr)
  bel : Below w.heap.size w w3
theorem ins3_a {w : World} {A : Option Addr} {n c : Nat} {L : List Txt} {B : Nat} (h : Slc w B 1 A n c (L.map encStr)) (hB : B ≤ w.heap.size) {k : Nat} (hk : k ≤ n) (hn : n ≤ 1000000000) (s : Txt) :
    ∃ A1 c1 w1 A2 c2 w2 A3 c3 w3, Ins3 w A n c k s L ((w.alloc (.cells #[.string ⟨s.toArray⟩] 9)).alloc (.cells #[] 9)).drew (w.heap.size + 1) w.heap.size A1 c1 w1 w1 A2 c2 w2 A3 c3 w3 := by
  have hb : Below w.heap.size w ((w.drew.alloc (.cells #[.string ⟨s.toArray⟩] 9)).alloc (.cells #[] 9)) := (((Below.refl _ w).drew).alloc (Nat.le_refl _) _).alloc (by simp) _
  obtain ⟨A1, c1, w1, r1, o1, b1, k1, _⟩ := ins_one h hB hk hn (x := w.heap.size + 1) hb (by have := heap_alloc_new (w.drew.alloc (.cells #[.string ⟨s.toArray⟩] 9)) (.cells #[] 9); simpa using this) (by omega)
  have hy : w1.heap[w.heap.size]? = some (.cells #[.string ⟨s.toArray⟩] 9 (0, 0)) := by
    rw [k1 w.heap.size (by simp; omega) (by omega), Below.heap_alloc _ _ _ (by simp)]
    exact heap_alloc_new w.drew _
  obtain ⟨A2, c2, w2, A3, c3, w3, r2, r3, o3, b3⟩ := ins_two h hB hk hn b1 o1 hy
  exact ⟨A1, c1, w1, A2, c2, w2, A3, c3, w3, r1, r2, r3, o3, b3⟩
theorem ins3_b {w : World} {A : Option Addr} {n c : Nat} {L : List Txt} {B : Nat} (h : Slc w B 1 A n c (L.map encStr)) (hB : B ≤ w.heap.size) {k : Nat} (hk : k ≤ n) (hn : n ≤ 1000000000) (s : Txt) :
    ∃ A1 c1 w1 A2 c2 w2 A3 c3 w3, Ins3 w A n c k s L ((w.alloc (.cells #[] 9)).alloc (.cells #[.string ⟨s.toArray⟩] 9)).drew w.heap.size (w.heap.size + 1) A1 c1 w1 w1 A2 c2 w2 A3 c3 w3 := by
  have hb : Below w.heap.size w ((w.drew.alloc (.cells #[] 9)).alloc (.cells #[.string ⟨s.toArray⟩] 9)) := (((Below.refl _ w).drew).alloc (Nat.le_refl _) _).alloc (by simp) _
  obtain ⟨A1, c1, w1, r1, o1, b1, k1, _⟩ := ins_one h hB hk hn (x := w.heap.size) hb (by rw [Below.heap_alloc _ _ _ (by simp)]; exact heap_alloc_new w.drew _) (Nat.le_refl _)
  have hy : w1.heap[w.heap.size + 1]? = some (.cells #[.string ⟨s.toArray⟩] 9 (0, 0)) := by
    rw [k1 (w.heap.size + 1) (by simp) (by omega)]
    have := heap_alloc_new (w.drew.alloc (.cells #[] 9)) (.cells #[.string ⟨s.toArray⟩] 9)
    simpa using this
  obtain ⟨A2, c2, w2, A3, c3, w3, r2, r3, o3, b3⟩ := ins_two h hB hk hn b1 o1 hy
  exact ⟨A1, c1, w1, A2, c2, w2, A3, c3, w3, r1, r2, r3, o3, b3⟩
theorem ins3_c {w : World} {A : Option Addr} {n c : Nat} {L : List Txt} {B : Nat} (h : Slc w B 1 A n c (L.map encStr)) (hB : B ≤ w.heap.size) {k : Nat} (hk : k ≤ n) (hn : n ≤ 1000000000) (s : Txt) :
    ∃ A1 c1 w1 A2 c2 w2 A3 c3 w3, Ins3 w A n c k s L (w.alloc (.cells #[] 9)).drew w.heap.size w1.heap.size A1 c1 w1 (w1.alloc (.cells #[.string ⟨s.toArray⟩] 9)) A2 c2 w2 A3 c3 w3 := by
  have hb : Below w.heap.size w (w.drew.alloc (.cells #[] 9)) := ((Below.refl _ w).drew).alloc (Nat.le_refl _) _
  obtain ⟨A1, c1, w1, r1, o1, b1, k1, _⟩ := ins_one h hB hk hn (x := w.heap.size) hb (heap_alloc_new w.drew _) (Nat.le_refl _)
  have b1' := b1.alloc b1.size (.cells #[.string ⟨s.toArray⟩] 9)
  obtain ⟨A2, c2, w2, A3, c3, w3, r2, r3, o3, b3⟩ := ins_two h hB hk hn b1' (o1.alloc _) (heap_alloc_new w1 (.cells #[.string ⟨s.toArray⟩] 9))
  exact ⟨A1, c1, w1, A2, c2, w2, A3, c3, w3, r1, r2, r3, o3, b3⟩
end Go.Proofs.YtibndaianhlcaaaDoor
namespace Go.Proofs.YtibndaianhlcaaaDoor
open Go.RowKit
set_option linter.unusedVariables false

variable {F : Fence} {n : Nat} {P : Program}

/-- What an iterator promises that writes nothing but the one cell ⟨bs, 0⟩: whatever a round's invariant J is that does not mind that cell's turns and draws. -/
def SeqC {α : Type} (F : Fence) (n : Nat) (P : Program) (gf : Nat) (lb : Array Value) (enc : α → Array Value) (Kp : World → World → Prop) (S Sp : List α → Prop) (bs : Nat) (W : World) : Prop :=
  ∀ (l : Nat) (J Jx : List α → World → Prop), (∀ s A v, J s A → J s (A.setCell ⟨bs, 0, none⟩ v)) → (∀ s A, J s A → J s A.drew) →
    (∀ pre x A, J pre A → Sp (pre ++ [x]) → YieldAt F (n - 1) P l (enc x) A fun e B =>
      (e = .returned (.bool true) ∧ J (pre ++ [x]) B ∧ Kp A B) ∨ (e = .returned (.bool false) ∧ Jx (pre ++ [x]) B)) →
    J [] W →
    CallsIn F n P gf (#[.func (.yield l) #[] #[]] ++ lb) W fun e B => (∃ v, e = .returned v) ∧ ((∃ xs, S xs ∧ J xs B) ∨ (∃ pre, Sp pre ∧ Jx pre B))

/-- The loop's two blocks (D: the rounds' deferred calls; D + 1: the record) lie as they lay. -/
structure RecKept (D : Nat) (A B : World) : Prop where
  size : A.heap.size ≤ B.heap.size
  mark : B.heap[D]? = A.heap[D]?
  rec_ : B.heap[D + 1]? = A.heap[D + 1]?
/-- How a round may end: it goes on, or it returns. -/
def bodyQ {α : Type} (D : Nat) (Kp : World → World → Prop) (I Ix : List α → World → Prop) (xs : List α) (A : World) : Exit → Act → World → Prop
  | .normal, _, B => RecKept D A B ∧ Kp A B ∧ I xs B
  | .ret, _, B => RecKept D A B ∧ Ix xs B
  | _, _, _ => False

theorem range_cell {α : Type} {g : Operand} {ps : Array Tmp} {assign body : Code} {Q : Exit → Act → World → Prop} {a : Act} {w : World}
    (hro : F.round = none) (h1 : 1 ≤ n) {gf : Nat} {lb : Array Value} (hg : a.eval g = .func (.func gf) #[] lb) (hFg : F.fn gf) (eg : ∀ args w, (callFunc gf args).run P w = .ok (.enter gf args) w)
    {enc : α → Array Value} {Kp : World → World → Prop} {S Sp : List α → Prop} {bs : Nat}
    (hseq : ∀ W, Below w.heap.size w W → SeqC F (n - 1) P gf lb enc Kp S Sp bs W) (hbs : bs < w.heap.size)
    (hKt : ∀ {A B C : World}, Kp A B → Kp B C → Kp A C) (hKb : ∀ (A : World) (o : Obj), Kp A (A.putObj (w.heap.size + 1) o)) (hps : ∀ x, (enc x).size = ps.size)
    (I Ix : List α → World → Prop) (hIa : ∀ s A o, I s A → I s (A.alloc o)) (hIp : ∀ s A o, w.heap.size + 1 < A.heap.size → I s A → I s (A.putObj (w.heap.size + 1) o)) (hIc : ∀ s A v, I s A → I s (A.setCell ⟨bs, 0, none⟩ v)) (hId : ∀ s A, I s A → I s A.drew)
    (hXp : ∀ s A o, w.heap.size + 1 < A.heap.size → Ix s A → Ix s (A.putObj (w.heap.size + 1) o)) (h0 : I [] w) (a₁ : α → Act)
    (hassign : ∀ (l : Nat) (x : α) (W : World) (K : Act → World → Prop), K (a₁ x) W →
      assign.wpIn (F.inRound l) (n - 1 - 1) P (Exit.then K (fun _ _ _ => False)) { tmps := (ps.zip (enc x)).foldl (fun t (p, v) => t.setIfInBounds p v) a.tmps, defers := [] } W)
    (hbody : ∀ (l : Nat) (pre : List α) (x : α) (W : World), I pre W → Sp (pre ++ [x]) → w.heap.size + 1 < W.heap.size → body.wpIn (F.inRound l) (n - 1 - 1) P (bodyQ w.heap.size Kp I Ix (pre ++ [x]) W) (a₁ x) W)
    (hdone : ∀ (xs : List α) (W : World), S xs → I xs W → w.heap.size + 1 < W.heap.size → W.heap[w.heap.size]? = some (.deferred (some [])) → Q .normal { a with defers := { target := .collected w.heap.size, args := #[] } :: a.defers } W)
    (hstop : ∀ (pre : List α) (W : World), Sp pre → Ix pre W → w.heap.size + 1 < W.heap.size → W.heap[w.heap.size]? = some (.deferred (some [])) → Code.ret.wpIn F n P Q { a with defers := { target := .collected w.heap.size, args := #[] } :: a.defers } W) :
    (Code.rangeFunc g ps assign body).wpIn F n P Q a w := by
  refine wpIn_rangeFunc fun fn hfn => ?_
  rw [hro]
  obtain ⟨L, hL⟩ : ∃ L : LoopState → Option Code → Loop, L = fun st pe => { state := st, pending := pe, fn, tmps := a.tmps, params := ps, assign, body, defers := w.heap.size } := ⟨_, rfl⟩
  obtain ⟨W1, hW1⟩ : ∃ W1, W1 = (w.alloc (.deferred (some []))).alloc (.loop (L .ready none)) := ⟨_, rfl⟩
  have hb1 : Below w.heap.size w W1 := by rw [hW1]; exact ((Below.refl _ w).alloc (Nat.le_refl _) _).alloc (by simp) _
  have hrec1 : W1.heap[w.heap.size + 1]? = some (.loop (L .ready none)) := by
    rw [hW1]
    have := World.alloc_heap_new (w.alloc (.deferred (some []))) (.loop (L .ready none))
    rwa [World.size_alloc] at this
  have hmark1 : W1.heap[w.heap.size]? = some (.deferred (some [])) := by
    rw [hW1]
    exact (Below.heap_alloc _ _ _ (by simp)).trans (World.alloc_heap_new w _)
  have hI1 : I [] W1 := by rw [hW1]; exact hIa _ _ _ (hIa _ _ _ h0)
  refine ⟨w.heap.size + 1, [{ target := .collected w.heap.size, args := #[] }], W1, { target := .fn (.func gf) lb, args := #[.func (.yield (w.heap.size + 1)) #[] #[]] }, W1, gf,
    #[.func (.yield (w.heap.size + 1)) #[] #[]] ++ lb, W1, ?_, ?_, ?_, ?_, fun _ => h1, ?_⟩
  · rw [hW1, hL]; exact run_enterLoop_outer _ _ _ _ _
  · simp only [resolve, hg]
    simp [go_sem]
  · intro f' hf'; simp [Target.leads] at hf'; subst hf'; exact hFg
  · simp [invoke, go_sem, eg]
  have hset : ∀ (A : World) (v : Value) (k : Nat), k = w.heap.size ∨ k = w.heap.size + 1 → (A.setCell ⟨bs, 0, none⟩ v).heap[k]? = A.heap[k]? := fun A v k hk =>
    Below.heap_setCell A ⟨bs, 0, none⟩ v k (by simp only; omega)
  refine (hseq W1 hb1 (w.heap.size + 1)
    (fun pre A => I pre A ∧ A.heap[w.heap.size + 1]? = some (.loop (L .ready none)) ∧ A.heap[w.heap.size]? = some (.deferred (some [])))
    (fun pre A => Ix pre A ∧ A.heap[w.heap.size + 1]? = some (.loop (L .done (some .ret))) ∧ A.heap[w.heap.size]? = some (.deferred (some [])))
    (fun s A v h => ⟨hIc s A v h.1, (hset A v _ (.inr rfl)).trans h.2.1, (hset A v _ (.inl rfl)).trans h.2.2⟩) (fun s A h => ⟨hId s A h.1, h.2.1, h.2.2⟩) ?_ ⟨hI1, hrec1, hmark1⟩).mono ?_
  · rintro pre x A ⟨hi, hl, hk⟩ hlen
    have hlt : w.heap.size + 1 < A.heap.size := (Array.getElem?_eq_some_iff.1 hl).1
    have hy := run_yield (P := P) (args := enc x) hl (by rw [hL]; exact hps x)
    have hbeg := run_beginRound (P := P) hl (by rw [hL])
    obtain ⟨A2, hA2⟩ : ∃ A2, A2 = A.putObj (w.heap.size + 1) (.loop { L .ready none with state := .busy }) := ⟨_, rfl⟩
    rw [← hA2] at hbeg
    have hl2 : A2.heap[w.heap.size + 1]? = some (.loop { L .ready none with state := .busy }) := by rw [hA2]; exact World.putObj_heap_same hlt
    have hk2 : A2.heap[w.heap.size]? = some (.deferred (some [])) := by rw [hA2]; exact (World.putObj_heap_other (by omega)).trans hk
    have hlt2 : w.heap.size + 1 < A2.heap.size := (Array.getElem?_eq_some_iff.1 hl2).1
    have hi2 : I pre A2 := by rw [hA2]; exact hIp _ _ _ hlt hi
    have hKp2 : Kp A A2 := by rw [hA2]; exact hKb _ _
    have hbusy : ({ L .ready none with state := .busy } : Loop) = L .busy none := by rw [hL]
    rw [hbusy] at hl2
    have fin : ∀ (jump : Option Code) (B : World), RecKept w.heap.size A2 B →
        (Instr.endRound (w.heap.size + 1) jump).run P B = .ok (.bool jump.isNone) (B.putObj (w.heap.size + 1) (.loop (L (if jump.isNone then .ready else .done) jump))) ∧ w.heap.size + 1 < B.heap.size ∧
        (B.putObj (w.heap.size + 1) (.loop (L (if jump.isNone then .ready else .done) jump))).heap[w.heap.size + 1]? = some (.loop (L (if jump.isNone then .ready else .done) jump)) ∧
        (B.putObj (w.heap.size + 1) (.loop (L (if jump.isNone then .ready else .done) jump))).heap[w.heap.size]? = some (.deferred (some [])) := fun jump B hB => by
      have hl3 : B.heap[w.heap.size + 1]? = some (.loop (L .busy none)) := hB.rec_.trans hl2
      have hr := run_endRound (P := P) jump hl3
      have he : ({ L .busy none with state := if jump.isNone then .ready else .done, pending := jump } : Loop) = L (if jump.isNone then .ready else .done) jump := by rw [hL]
      rw [he] at hr
      have hlt3 := (Array.getElem?_eq_some_iff.1 hl3).1
      exact ⟨hr, hlt3, World.putObj_heap_same hlt3, (World.putObj_heap_other (by omega)).trans (hB.mark.trans hk2)⟩
    have hyf : (L .ready none).fn = fn := by rw [hL]
    have hyt : (L .ready none).tmps = a.tmps := by rw [hL]
    have hyp : (L .ready none).params = ps := by rw [hL]
    have hya : (L .ready none).assign = assign := by rw [hL]
    have hyb : (L .ready none).body = body := by rw [hL]
    rw [hyf, hyt, hyp, hya, hyb] at hy
    refine ⟨fn, _, assign, body, hy, roundIn_of_wpIn hfn (hassign _ x A _ ⟨A2, hbeg, wpIn_mono (hbody _ pre x A2 hi2 hlen hlt2) ?_⟩)⟩
    rintro e a3 B hp
    cases e with
    | normal =>
      obtain ⟨hr, hkp, hi3⟩ := hp
      obtain ⟨q1, q2, q3, q4⟩ := fin none B hr
      exact ⟨_, _, q1, .inl ⟨rfl, ⟨hIp _ _ _ q2 hi3, q3, q4⟩, hKt (hKt hKp2 hkp) (hKb _ _)⟩⟩
    | ret =>
      obtain ⟨hr, hx3⟩ := hp
      obtain ⟨q1, q2, q3, q4⟩ := fin (some .ret) B hr
      exact ⟨_, _, q1, .inr ⟨rfl, hXp _ _ _ q2 hx3, q3, q4⟩⟩
    | exit id => exact hp.elim
    | goto t => exact hp.elim
    | panic ch => exact hp.elim
    | outgrown => exact hp.elim
  · rintro e B ⟨⟨v, rfl⟩, (⟨xs, hS, hi, hl, hk⟩ | ⟨pre, hSp, hi, hl, hk⟩)⟩
    · have hlt := (Array.getElem?_eq_some_iff.1 hl).1
      have hend := run_endLoop (P := P) hl (by rw [hL]; simp)
      have hp : (L .ready none).pending = none := by rw [hL]
      rw [hp] at hend
      exact ⟨none, _, hend, hdone xs _ hS (hIp _ _ _ hlt hi) (by simpa using hlt) ((World.putObj_heap_other (by omega)).trans hk)⟩
    · have hlt := (Array.getElem?_eq_some_iff.1 hl).1
      have hend := run_endLoop (P := P) hl (by rw [hL]; simp)
      have hp : (L .done (some .ret)).pending = some .ret := by rw [hL]
      rw [hp] at hend
      exact ⟨some .ret, _, hend, hstop pre _ hSp (hXp _ _ _ hlt hi) (by simpa using hlt) ((World.putObj_heap_other (by omega)).trans hk)⟩
end Go.Proofs.YtibndaianhlcaaaDoor
namespace Go.Proofs.YtibndaianhlcaaaDoor
open Go.RowKit Go.Shelf
set_option linter.unusedVariables false
set_option linter.unusedSimpArgs false

theorem index_none : ∀ (l : Txt), (47 : UInt8) ∉ l → Lib.indexByte l 47 = -1
  | [], _ => by simp [Lib.indexByte]
  | x :: l, h => by
    have h1 : x ≠ 47 := fun e => h (by rw [e]; exact List.mem_cons_self ..)
    have h2 := index_none l (fun e => h (List.mem_cons_of_mem _ e))
    simp [Lib.indexByte, h1, h2]
theorem index_cut : ∀ (a b : Txt), (47 : UInt8) ∉ a → Lib.indexByte (a ++ 47 :: b) 47 = (a.length : Int)
  | [], b, _ => by simp [Lib.indexByte]
  | x :: a, b, h => by
    have h1 : x ≠ 47 := fun e => h (by rw [e]; exact List.mem_cons_self ..)
    have h2 := index_cut a b (fun e => h (List.mem_cons_of_mem _ e))
    show (if x == 47 then 0 else if Lib.indexByte (a ++ 47 :: b) 47 == -1 then -1 else Lib.indexByte (a ++ 47 :: b) 47 + 1) = _
    rw [h2, if_neg (by simpa using h1), if_neg (by simp)]
    simp
theorem cut_of_mem : ∀ (l : Txt), (47 : UInt8) ∈ l → ∃ a b, l = a ++ 47 :: b ∧ (47 : UInt8) ∉ a
  | [], h => by cases h
  | x :: l, h => by
    by_cases hx : x = 47
    · exact ⟨[], l, by rw [hx]; rfl, by simp⟩
    · obtain ⟨a, b, e, hn⟩ := cut_of_mem l (by
        rcases List.mem_cons.1 h with h | h
        · exact absurd h.symm hx
        · exact h)
      refine ⟨x :: a, b, by rw [e]; rfl, fun hm => ?_⟩
      rcases List.mem_cons.1 hm with h1 | h1
      · exact hx h1.symm
      · exact hn h1
theorem ext0 (l : Txt) (b : Nat) : (ByteArray.mk l.toArray).extract 0 b = ⟨(l.take b).toArray⟩ := by
  apply Go.WideShapes.bytes_inj
  simp [List.extract_eq_take_drop]
theorem extN (l : Txt) (a : Nat) : (ByteArray.mk l.toArray).extract a l.length = ⟨(l.drop a).toArray⟩ := by
  apply Go.WideShapes.bytes_inj
  simp [List.extract_eq_take_drop]
  rw [List.take_of_length_le (by rw [List.length_drop]; exact Nat.le_refl _)]

/-- What a round keeps of the iterator's three cells. -/
structure Kp3 (b1 b2 b3 : Nat) (A B : World) : Prop where
  k1 : B.heap[b1]? = A.heap[b1]?
  k2 : B.heap[b2]? = A.heap[b2]?
  k3 : B.heap[b3]? = A.heap[b3]?
theorem Kp3.trans {b1 b2 b3 : Nat} {A B C : World} (h : Kp3 b1 b2 b3 A B) (k : Kp3 b1 b2 b3 B C) : Kp3 b1 b2 b3 A C := ⟨k.k1.trans h.k1, k.k2.trans h.k2, k.k3.trans h.k3⟩
def leftC (b1 : Nat) (W : World) : Nat := match W.cell? ⟨b1, 0, none⟩ with
  | some (.string s) => s.size
  | _ => 0
theorem leftC_of {W : World} {b1 : Nat} {l : Txt} (h : Blk W b1 9 #[.string ⟨l.toArray⟩]) : leftC b1 W = l.length := by
  unfold leftC
  rw [h.cell 0]
  rfl

section
attribute [local go_sem] Oper.semAt_some
set_option maxRecDepth 100000 in
set_option maxHeartbeats 4000000 in
theorem splitseq_in (m : Nat) (hm : 1 ≤ m) (b1 b2 b3 : Nat) (h12 : b1 ≠ b2) (h13 : b1 ≠ b3) (l0 : Txt) (hlen : l0.length ≤ 1000000000) (W : World)
    (c1 : Blk W b1 9 #[.string ⟨l0.toArray⟩]) (c2 : Blk W b2 9 #[.string ⟨#[47]⟩]) (c3 : Blk W b3 3 #[.int .i64 0]) :
    SeqC Fence.wide m Tryd.prog 87 #[.pointer (some ⟨b2, 0, none⟩), .pointer (some ⟨b1, 0, none⟩), .pointer (some ⟨b3, 0, none⟩)] (fun x : Txt => #[.string ⟨x.toArray⟩]) (Kp3 b1 b2 b3) (fun xs => xs = splitS l0) (fun pre => pre <+: splitS l0) b1 W := by
  intro l J Jx hJc hJd hY h0
  refine callsIn_of_wp Tryd.func87 rfl trivial ?_ rfl
  simp only [Tryd.ntmps87, List.size_toArray, List.length_cons, List.length_nil, Nat.reduceAdd, Nat.reduceSub, Array.replicate_succ, Array.replicate_zero, List.push_toArray, List.append_toArray, List.nil_append, List.cons_append]
  have d2 := c2.cell 0
  have d1 := c1.cell 0
  simp only [List.getElem?_toArray, List.getElem?_cons_zero] at d1 d2
  have C1 := Lib.hid c1
  have C2 := Lib.hid c2
  have C3 := Lib.hid c3
  have HY := Lib.hid hY
  have HJC := Lib.hid hJc
  clear c1 c2 c3 hY hJc
  gi_wp2
  gi_loopw [7] (fun t wr => ∃ (pre : List Txt) (rest : Txt), splitS l0 = pre ++ splitS rest ∧ rest.length ≤ l0.length ∧ Blk wr b1 9 #[.string ⟨rest.toArray⟩] ∧ Blk wr b2 9 #[.string ⟨#[47]⟩] ∧ Blk wr b3 3 #[.int .i64 0] ∧ J pre wr) (fun _ wr => leftC b1 wr)
  case atStart => exact ⟨[], l0, rfl, Nat.le_refl _, C1.out, C2.out, C3.out, h0⟩
  case round =>
    obtain ⟨pre, rest, hsp, hrl, e1, e2, e3, hJ⟩ := hrel
    have f1 := e1.cell 0
    have f2 := e2.cell 0
    have f3 := e3.cell 0
    simp only [List.getElem?_toArray, List.getElem?_cons_zero] at f1 f2 f3
    have hix := callsIn_wide (n := m - 1) |>.2 (Tryd.strings_Index_one ⟨rest.toArray⟩ 47 wr)
    have hd : (ByteArray.mk rest.toArray).data.toList = rest := rfl
    rw [hd] at hix
    clear hd
    have HSP := Lib.hid hsp
    have HRL := Lib.hid hrl
    have HE := Lib.hid (And.intro e1 (And.intro e2 e3))
    clear hsp hrl e1 e2 e3
    by_cases hmem : (47 : UInt8) ∈ rest
    · obtain ⟨a, b, rfl, hna⟩ := cut_of_mem rest hmem
      rw [index_cut a b hna] at hix
      have HSP2 := Lib.hid (show splitS l0 = (pre ++ [a]) ++ splitS b by rw [HSP.out, splitS_cut a b hna]; simp)
      have hN : pre ++ [a] <+: splitS l0 := ⟨splitS b, HSP2.out.symm⟩
      obtain ⟨fn, tmps, assign, body, hy, hR⟩ := HY.out pre a wr hJ hN
      have hx1 : (ByteArray.mk (a ++ 47 :: b).toArray).extract 0 a.length = ⟨a.toArray⟩ := by rw [ext0, List.take_left]
      have hx2 : (ByteArray.mk (a ++ 47 :: b).toArray).extract (a.length + 1) (a.length + (b.length + 1)) = ⟨b.toArray⟩ := by
        have h1 := extN (a ++ 47 :: b) (a.length + 1)
        rw [show (a ++ 47 :: b).length = a.length + (b.length + 1) by simp] at h1
        rw [h1]
        congr 2
        rw [show a ++ 47 :: b = (a ++ [47]) ++ b by simp]
        exact List.drop_left' (by simp)
      have HX2 := Lib.hid hx2
      have hal : a.length ≤ 1000000000 := by have := HRL.out; simp at this; omega
      have hbl : b.length ≤ 1000000000 := by have := HRL.out; simp at this; omega
      have HBL := Lib.hid (show b.length ≤ l0.length by have := HRL.out; simp at this; omega)
      clear hx2 hmem hna hN
      gi_wp2_with (refine ⟨trivial, ?_⟩; gi_at_call 81; refine hix.mono ?_; clear hix; rintro e W2 ⟨rfl, hW2⟩; obtain rfl := hW2.symm)
      refine hR.mono ?_
      rintro e W3 (⟨rfl, hJ3, hk3⟩ | ⟨rfl, hJx3⟩)
      · have E1 := Lib.hid (show Blk W3 b1 9 #[.string ⟨(a ++ 47 :: b).toArray⟩] from hk3.k1.trans HE.out.1)
        have E2 := Lib.hid (show Blk W3 b2 9 #[.string ⟨#[47]⟩] from hk3.k2.trans HE.out.2.1)
        have E3 := Lib.hid (show Blk W3 b3 3 #[.int .i64 0] from hk3.k3.trans HE.out.2.2)
        have g1 := E1.out.cell 0
        have g2 := E2.out.cell 0
        have gf := E1.out.frozen 0
        simp only [List.getElem?_toArray, List.getElem?_cons_zero] at g1 g2
        have hx2 := HX2.out
        have hE4 := Lib.hid (And.intro (E1.out.set_ 0 (.string ⟨b.toArray⟩)) (And.intro (E2.out.far (p := ⟨b1, 0, none⟩) (fun e => h12 e.symm) (.string ⟨b.toArray⟩)) (E3.out.far (p := ⟨b1, 0, none⟩) (fun e => h13 e.symm) (.string ⟨b.toArray⟩))))
        have hlt1 := E1.out.lt
        clear f1 f2 f3 hy
        gi_wp2
        go_roundw
        case rel => exact ⟨pre ++ [a], b, HSP2.out, HBL.out, hE4.out.1, hE4.out.2.1, hE4.out.2.2, HJC.out _ _ _ hJ3⟩
        case measure =>
          rw [leftC_of (show Blk (W3.setCell ⟨b1, 0, none⟩ (.string ⟨b.toArray⟩)) b1 9 #[.string ⟨b.toArray⟩] from hE4.out.1), leftC_of HE.out.1]
          simp
          omega
      · gi_wp2
        refine bodyPost_ret (results_none rfl _ _ _) rfl ?_
        exact ⟨⟨_, rfl⟩, .inr ⟨pre ++ [a], ⟨splitS b, HSP2.out.symm⟩, hJx3⟩⟩
    · rw [index_none rest hmem] at hix
      have HSP2 := Lib.hid (show splitS l0 = pre ++ [rest] by rw [HSP.out, splitS_none rest hmem])
      have hN : pre ++ [rest] <+: splitS l0 := ⟨[], by rw [HSP2.out]; simp⟩
      obtain ⟨fn, tmps, assign, body, hy, hR⟩ := HY.out pre rest wr hJ hN
      clear hmem hN
      gi_wp2_with (refine ⟨trivial, ?_⟩; gi_at_call 81; refine hix.mono ?_; clear hix; rintro e W2 ⟨rfl, hW2⟩; obtain rfl := hW2.symm)
      refine hR.mono ?_
      rintro e W3 (⟨rfl, hJ3, hk3⟩ | ⟨rfl, hJx3⟩)
      · gi_wp2
        go_end0
        exact ⟨⟨_, rfl⟩, .inl ⟨pre ++ [rest], HSP2.out.symm, hJ3⟩⟩
      · gi_wp2
        go_end0
        exact ⟨⟨_, rfl⟩, .inr ⟨pre ++ [rest], ⟨[], by rw [HSP2.out]; simp⟩, hJx3⟩⟩
end

/-- The world behind SplitSeq: its three cells. -/
def splitW (w : World) (s : ByteArray) : World := ((w.alloc (.cells #[.string s] 9)).alloc (.cells #[.string ⟨#[47]⟩] 9)).alloc (.cells #[.int .i64 0] 3)
theorem splitW_facts (w : World) (s : ByteArray) : Blk (splitW w s) w.heap.size 9 #[.string s] ∧ Blk (splitW w s) (w.heap.size + 1) 9 #[.string ⟨#[47]⟩] ∧ Blk (splitW w s) (w.heap.size + 2) 3 #[.int .i64 0] ∧ Below w.heap.size w (splitW w s) ∧ (splitW w s).heap.size = w.heap.size + 3 := by
  unfold splitW
  refine ⟨((Blk.new _ _ _).alloc _).alloc _, ?_, ?_, (((Below.refl _ w).alloc (Nat.le_refl _) _).alloc (by simp) _).alloc (by simp; omega) _, by simp⟩
  · have := Blk.new (w.alloc (.cells #[.string s] 9)) 9 #[.string ⟨#[47]⟩]
    rw [World.size_alloc] at this
    exact this.alloc _
  · have := Blk.new ((w.alloc (.cells #[.string s] 9)).alloc (.cells #[.string ⟨#[47]⟩] 9)) 3 #[.int .i64 0]
    rwa [World.size_alloc, World.size_alloc] at this
theorem split_any (s : ByteArray) (w : World) : Calls Tryd.prog 70 #[.string s, .string ⟨#[47]⟩] w fun e w' =>
    e = .returned (.func (.func 87) #[] #[.pointer (some ⟨w.heap.size + 1, 0, none⟩), .pointer (some ⟨w.heap.size, 0, none⟩), .pointer (some ⟨w.heap.size + 2, 0, none⟩)]) ∧ w' = splitW w s := by
  unfold splitW
  go_enter Tryd.func70, Tryd.ntmps70
  go_wp2
  go_ret
  exact ⟨rfl, rfl⟩
end Go.Proofs.YtibndaianhlcaaaDoor
