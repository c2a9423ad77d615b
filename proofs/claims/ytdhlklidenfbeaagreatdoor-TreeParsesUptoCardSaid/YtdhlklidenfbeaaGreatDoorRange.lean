/- A range over a function whose iterator keeps its state in a cell: no program in sight. -/
import Derived.RangeFuncNested
import Derived.RangeFuncBound
import Derived.RangeFuncCalls
import Derived.RangeFuncLeaves
import Derived.RangeFuncKeeps
import Derived.WalkKit
import Derived.OwnWalkIn
import Derived.TacticsInMore
import Derived.LoopNIn
import Derived.LoopIn
namespace Go.Proofs.YtdhlklidenfbeaaGreatDoor
open Go.RowKit
set_option linter.unusedVariables false

variable {F : Fence} {n : Nat} {P : Program}

/-- What an iterator promises that writes nothing but the one cell ⟨bs, 0⟩: whatever a round's invariant J is that does not mind that cell's turns and draws. -/
def SeqC {α : Type} (F : Fence) (n : Nat) (P : Program) (gf : Nat) (lb : Array Value) (enc : α → Array Value) (Kp : World → World → Prop) (S Sp : List α → Prop) (bs : Nat) (W : World) : Prop :=
  ∀ (l : Nat) (J Jx : List α → World → Prop), (∀ s A v, J s A → J s (A.setCell ⟨bs, 0, none⟩ v)) → (∀ s A, J s A → J s A.drew) →
    (∀ pre x A, J pre A → Sp (pre ++ [x]) → YieldAt F (n - 1) P l (enc x) A fun e B =>
      (e = .returned (.bool true) ∧ J (pre ++ [x]) B ∧ Kp A B) ∨ (e = .returned (.bool false) ∧ Jx (pre ++ [x]) B)) →
    J [] W →
    CallsIn F n P gf (#[.func (.yield l) #[] #[]] ++ lb) W fun e B => (∃ v, e = .returned v) ∧ ((∃ xs, S xs ∧ J xs B) ∨ (∃ pre, Sp pre ∧ Jx pre B))

/-- The loop's two blocks (D: the rounds' deferred calls; D + 1: the record) lie as they lay. -/
structure RecKept (D : Nat) (A B : World) : Prop where
  size : A.heap.size ≤ B.heap.size
  mark : B.heap[D]? = A.heap[D]?
  rec_ : B.heap[D + 1]? = A.heap[D + 1]?
/-- How a round may end: it goes on, or it returns. -/
def bodyQ {α : Type} (D : Nat) (Kp : World → World → Prop) (I Ix : List α → World → Prop) (xs : List α) (A : World) : Exit → Act → World → Prop
  | .normal, _, B => RecKept D A B ∧ Kp A B ∧ I xs B
  | .ret, _, B => RecKept D A B ∧ Ix xs B
  | _, _, _ => False

theorem range_cell {α : Type} {g : Operand} {ps : Array Tmp} {assign body : Code} {Q : Exit → Act → World → Prop} {a : Act} {w : World}
    (hro : F.round = none) (h1 : 1 ≤ n) {gf : Nat} {lb : Array Value} (hg : a.eval g = .func (.func gf) #[] lb) (hFg : F.fn gf) (eg : ∀ args w, (callFunc gf args).run P w = .ok (.enter gf args) w)
    {enc : α → Array Value} {Kp : World → World → Prop} {S Sp : List α → Prop} {bs : Nat}
    (hseq : ∀ W, Below w.heap.size w W → SeqC F (n - 1) P gf lb enc Kp S Sp bs W) (hbs : bs < w.heap.size)
    (hKt : ∀ {A B C : World}, Kp A B → Kp B C → Kp A C) (hKb : ∀ (A : World) (o : Obj), Kp A (A.putObj (w.heap.size + 1) o)) (hps : ∀ x, (enc x).size = ps.size)
    (I Ix : List α → World → Prop) (hIa : ∀ s A o, I s A → I s (A.alloc o)) (hIp : ∀ s A o, w.heap.size + 1 < A.heap.size → I s A → I s (A.putObj (w.heap.size + 1) o)) (hIc : ∀ s A v, I s A → I s (A.setCell ⟨bs, 0, none⟩ v)) (hId : ∀ s A, I s A → I s A.drew)
    (hXp : ∀ s A o, w.heap.size + 1 < A.heap.size → Ix s A → Ix s (A.putObj (w.heap.size + 1) o)) (h0 : I [] w) (a₁ : α → Act)
    (hassign : ∀ (l : Nat) (x : α) (W : World) (K : Act → World → Prop), K (a₁ x) W →
      assign.wpIn (F.inRound l) (n - 1 - 1) P (Exit.then K (fun _ _ _ => False)) { tmps := (ps.zip (enc x)).foldl (fun t (p, v) => t.setIfInBounds p v) a.tmps, defers := [] } W)
    (hbody : ∀ (l : Nat) (pre : List α) (x : α) (W : World), I pre W → Sp (pre ++ [x]) → w.heap.size + 1 < W.heap.size → body.wpIn (F.inRound l) (n - 1 - 1) P (bodyQ w.heap.size Kp I Ix (pre ++ [x]) W) (a₁ x) W)
    (hdone : ∀ (xs : List α) (W : World), S xs → I xs W → w.heap.size + 1 < W.heap.size → W.heap[w.heap.size]? = some (.deferred (some [])) → Q .normal { a with defers := { target := .collected w.heap.size, args := #[] } :: a.defers } W)
    (hstop : ∀ (pre : List α) (W : World), Sp pre → Ix pre W → w.heap.size + 1 < W.heap.size → W.heap[w.heap.size]? = some (.deferred (some [])) → Code.ret.wpIn F n P Q { a with defers := { target := .collected w.heap.size, args := #[] } :: a.defers } W) :
    (Code.rangeFunc g ps assign body).wpIn F n P Q a w := by
  refine wpIn_rangeFunc fun fn hfn => ?_
  rw [hro]
  obtain ⟨L, hL⟩ : ∃ L : LoopState → Option Code → Loop, L = fun st pe => { state := st, pending := pe, fn, tmps := a.tmps, params := ps, assign, body, defers := w.heap.size } := ⟨_, rfl⟩
  obtain ⟨W1, hW1⟩ : ∃ W1, W1 = (w.alloc (.deferred (some []))).alloc (.loop (L .ready none)) := ⟨_, rfl⟩
  have hb1 : Below w.heap.size w W1 := by rw [hW1]; exact ((Below.refl _ w).alloc (Nat.le_refl _) _).alloc (by simp) _
  have hrec1 : W1.heap[w.heap.size + 1]? = some (.loop (L .ready none)) := by
    rw [hW1]
    have := World.alloc_heap_new (w.alloc (.deferred (some []))) (.loop (L .ready none))
    rwa [World.size_alloc] at this
  have hmark1 : W1.heap[w.heap.size]? = some (.deferred (some [])) := by
    rw [hW1]
    exact (Below.heap_alloc _ _ _ (by simp)).trans (World.alloc_heap_new w _)
  have hI1 : I [] W1 := by rw [hW1]; exact hIa _ _ _ (hIa _ _ _ h0)
  refine ⟨w.heap.size + 1, [{ target := .collected w.heap.size, args := #[] }], W1, { target := .fn (.func gf) lb, args := #[.func (.yield (w.heap.size + 1)) #[] #[]] }, W1, gf,
    #[.func (.yield (w.heap.size + 1)) #[] #[]] ++ lb, W1, ?_, ?_, ?_, ?_, fun _ => h1, ?_⟩
  · rw [hW1, hL]; exact run_enterLoop_outer _ _ _ _ _
  · simp only [resolve, hg]
    simp [go_sem]
  · intro f' hf'; simp [Target.leads] at hf'; subst hf'; exact hFg
  · simp [invoke, go_sem, eg]
  have hset : ∀ (A : World) (v : Value) (k : Nat), k = w.heap.size ∨ k = w.heap.size + 1 → (A.setCell ⟨bs, 0, none⟩ v).heap[k]? = A.heap[k]? := fun A v k hk =>
    Below.heap_setCell A ⟨bs, 0, none⟩ v k (by simp only; omega)
  refine (hseq W1 hb1 (w.heap.size + 1)
    (fun pre A => I pre A ∧ A.heap[w.heap.size + 1]? = some (.loop (L .ready none)) ∧ A.heap[w.heap.size]? = some (.deferred (some [])))
    (fun pre A => Ix pre A ∧ A.heap[w.heap.size + 1]? = some (.loop (L .done (some .ret))) ∧ A.heap[w.heap.size]? = some (.deferred (some [])))
    (fun s A v h => ⟨hIc s A v h.1, (hset A v _ (.inr rfl)).trans h.2.1, (hset A v _ (.inl rfl)).trans h.2.2⟩) (fun s A h => ⟨hId s A h.1, h.2.1, h.2.2⟩) ?_ ⟨hI1, hrec1, hmark1⟩).mono ?_
  · rintro pre x A ⟨hi, hl, hk⟩ hlen
    have hlt : w.heap.size + 1 < A.heap.size := (Array.getElem?_eq_some_iff.1 hl).1
    have hy := run_yield (P := P) (args := enc x) hl (by rw [hL]; exact hps x)
    have hbeg := run_beginRound (P := P) hl (by rw [hL])
    obtain ⟨A2, hA2⟩ : ∃ A2, A2 = A.putObj (w.heap.size + 1) (.loop { L .ready none with state := .busy }) := ⟨_, rfl⟩
    rw [← hA2] at hbeg
    have hl2 : A2.heap[w.heap.size + 1]? = some (.loop { L .ready none with state := .busy }) := by rw [hA2]; exact World.putObj_heap_same hlt
    have hk2 : A2.heap[w.heap.size]? = some (.deferred (some [])) := by rw [hA2]; exact (World.putObj_heap_other (by omega)).trans hk
    have hlt2 : w.heap.size + 1 < A2.heap.size := (Array.getElem?_eq_some_iff.1 hl2).1
    have hi2 : I pre A2 := by rw [hA2]; exact hIp _ _ _ hlt hi
    have hKp2 : Kp A A2 := by rw [hA2]; exact hKb _ _
    have hbusy : ({ L .ready none with state := .busy } : Loop) = L .busy none := by rw [hL]
    rw [hbusy] at hl2
    have fin : ∀ (jump : Option Code) (B : World), RecKept w.heap.size A2 B →
        (Instr.endRound (w.heap.size + 1) jump).run P B = .ok (.bool jump.isNone) (B.putObj (w.heap.size + 1) (.loop (L (if jump.isNone then .ready else .done) jump))) ∧ w.heap.size + 1 < B.heap.size ∧
        (B.putObj (w.heap.size + 1) (.loop (L (if jump.isNone then .ready else .done) jump))).heap[w.heap.size + 1]? = some (.loop (L (if jump.isNone then .ready else .done) jump)) ∧
        (B.putObj (w.heap.size + 1) (.loop (L (if jump.isNone then .ready else .done) jump))).heap[w.heap.size]? = some (.deferred (some [])) := fun jump B hB => by
      have hl3 : B.heap[w.heap.size + 1]? = some (.loop (L .busy none)) := hB.rec_.trans hl2
      have hr := run_endRound (P := P) jump hl3
      have he : ({ L .busy none with state := if jump.isNone then .ready else .done, pending := jump } : Loop) = L (if jump.isNone then .ready else .done) jump := by rw [hL]
      rw [he] at hr
      have hlt3 := (Array.getElem?_eq_some_iff.1 hl3).1
      exact ⟨hr, hlt3, World.putObj_heap_same hlt3, (World.putObj_heap_other (by omega)).trans (hB.mark.trans hk2)⟩
    have hyf : (L .ready none).fn = fn := by rw [hL]
    have hyt : (L .ready none).tmps = a.tmps := by rw [hL]
    have hyp : (L .ready none).params = ps := by rw [hL]
    have hya : (L .ready none).assign = assign := by rw [hL]
    have hyb : (L .ready none).body = body := by rw [hL]
    rw [hyf, hyt, hyp, hya, hyb] at hy
    refine ⟨fn, _, assign, body, hy, roundIn_of_wpIn hfn (hassign _ x A _ ⟨A2, hbeg, wpIn_mono (hbody _ pre x A2 hi2 hlen hlt2) ?_⟩)⟩
    rintro e a3 B hp
    cases e with
    | normal =>
      obtain ⟨hr, hkp, hi3⟩ := hp
      obtain ⟨q1, q2, q3, q4⟩ := fin none B hr
      exact ⟨_, _, q1, .inl ⟨rfl, ⟨hIp _ _ _ q2 hi3, q3, q4⟩, hKt (hKt hKp2 hkp) (hKb _ _)⟩⟩
    | ret =>
      obtain ⟨hr, hx3⟩ := hp
      obtain ⟨q1, q2, q3, q4⟩ := fin (some .ret) B hr
      exact ⟨_, _, q1, .inr ⟨rfl, hXp _ _ _ q2 hx3, q3, q4⟩⟩
    | exit id => exact hp.elim
    | goto t => exact hp.elim
    | panic ch => exact hp.elim
    | outgrown => exact hp.elim
  · rintro e B ⟨⟨v, rfl⟩, (⟨xs, hS, hi, hl, hk⟩ | ⟨pre, hSp, hi, hl, hk⟩)⟩
    · have hlt := (Array.getElem?_eq_some_iff.1 hl).1
      have hend := run_endLoop (P := P) hl (by rw [hL]; simp)
      have hp : (L .ready none).pending = none := by rw [hL]
      rw [hp] at hend
      exact ⟨none, _, hend, hdone xs _ hS (hIp _ _ _ hlt hi) (by simpa using hlt) ((World.putObj_heap_other (by omega)).trans hk)⟩
    · have hlt := (Array.getElem?_eq_some_iff.1 hl).1
      have hend := run_endLoop (P := P) hl (by rw [hL]; simp)
      have hp : (L .done (some .ret)).pending = some .ret := by rw [hL]
      rw [hp] at hend
      exact ⟨some .ret, _, hend, hstop pre _ hSp (hXp _ _ _ hlt hi) (by simpa using hlt) ((World.putObj_heap_other (by omega)).trans hk)⟩
end Go.Proofs.YtdhlklidenfbeaaGreatDoor
