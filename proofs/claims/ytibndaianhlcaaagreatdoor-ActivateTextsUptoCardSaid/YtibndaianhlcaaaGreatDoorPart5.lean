/- The system of some entries: plain, with no program in sight. A range over a function whose iterator keeps its state in a cell: no program in sight. Contracts of the library laid at this dump. What a call does to the memory that an object has reserved: 'Step w w' F F''. -/
import Derived.Test.YtibndaianhlcaaaGreatDoorPart4
import Derived.RangeFuncNested
import Derived.RangeFuncBound
import Derived.RangeFuncCalls
import Derived.RangeFuncLeaves
import Derived.RangeFuncKeeps
import Derived.WalkKit
import Derived.OwnWalkIn
import Derived.TacticsInMore
import Derived.LoopNIn
import Derived.LoopIn
import Derived.Shelf.Small.Wraps
import Derived.Shelf.Strings.Prefix
import Derived.Shelf.Strings.Search3
import Derived.Shelf.Strings.Count
import Derived.Shelf.LaysM
import Derived.Shelf.LaysC
import Derived.Ground.GgwProg
import Derived.Ground.SlgnProg
import Derived.Ground.SlgfProg
import Derived.Test.YtibndaianhlcaaaGreatDoorProg
import Derived.Test.YtibndaianhlcaaaGreatDoorPart1
import Derived.Deep.MidRow
namespace Go.Proofs.YtibndaianhlcaaaGreatDoor
set_option linter.unusedVariables false
set_option linter.unusedSimpArgs false

def etcT : Txt := [101, 116, 99, 47]
/-- A path, etc/ taken off. -/
def trimE (p : Txt) : Txt := if etcT.isPrefixOf p = true then p.drop 4 else p
def partE (x : Ent) : Ent := ⟨trimE x.path, x.kind, x.data⟩
def lastD (es : List Ent) : Txt := match es.getLast? with
  | none => []
  | some x => x.data
def partS (es : List Ent) : SysP := sysText ⟨es.dropLast.map partE, [], []⟩ (lastD es)
/-- The system of some entries; none: there is none. -/
def sysR (es : List Ent) : Option SysP := if es ≠ [] ∧ rightS (partS es) = true ∧ laidS (partS es) = es then some (partS es) else none

theorem line_files (s : SysP) (l : Txt) : (sysLine s l).files = s.files := by
  unfold sysLine
  split
  · rfl
  · split <;> rfl
theorem fold_files : ∀ (l : List Txt) (s : SysP), (l.foldl sysLine s).files = s.files
  | [], s => rfl
  | x :: l, s => by rw [List.foldl_cons, fold_files l, line_files]
theorem part_files (es : List Ent) : (partS es).files = es.dropLast.map partE := fold_files _ _
theorem laid_drop (s : SysP) : (laidS s).dropLast = s.files.map (fun x => ⟨[101, 116, 99, 47] ++ x.path, x.kind, x.data⟩) := by
  unfold laidS
  rw [List.dropLast_concat]
theorem laid_lastD (s : SysP) : lastD (laidS s) = textS s := by
  unfold laidS lastD
  rw [List.getLast?_concat]
/-- An entry ahead of the last that does not begin with etc/: no system. -/
theorem sys_bad {es : List Ent} {x : Ent} (hx : x ∈ es.dropLast) (h : etcT.isPrefixOf x.path = false) : sysR es = none := by
  unfold sysR
  rw [if_neg]
  rintro ⟨_, _, h3⟩
  have h4 := congrArg List.dropLast h3
  rw [laid_drop, part_files, List.map_map] at h4
  obtain ⟨i, hi, rfl⟩ := List.getElem_of_mem hx
  have h5 := congrArg (fun l => l[i]?) h4
  simp only [List.getElem?_map, List.getElem?_eq_getElem hi, Option.map_some, Function.comp] at h5
  injection h5 with h5
  have h6 := congrArg Ent.path h5
  simp only at h6
  rw [← h6] at h
  have h7 : etcT.isPrefixOf ([101, 116, 99, 47] ++ (partE es.dropLast[i]).path) = true := by
    rw [List.isPrefixOf_iff_prefix]
    exact List.prefix_append _ _
  rw [h7] at h
  cases h
theorem letter_calm {l : Txt} (h : l.all letterB = true) : (10 : UInt8) ∉ l := fun hm => by
  have := List.all_eq_true.1 h 10 hm
  revert this
  decide
theorem print_calm {l : Txt} (h : l.all printB = true) : (10 : UInt8) ∉ l := fun hm => by
  have := List.all_eq_true.1 h 10 hm
  revert this
  decide
theorem name_calm {l : Txt} (h : nameB l = true) : (10 : UInt8) ∉ l := by
  unfold nameB at h
  rw [Bool.and_eq_true] at h
  exact letter_calm h.2
theorem may_calm {u : Srv} (h : mayU u = true) : Calm u := by
  unfold mayU at h
  simp only [Bool.and_eq_true, List.all_cons, List.all_append, List.all_eq_true, decide_eq_true_eq] at h
  obtain ⟨⟨⟨h1, h2, h3⟩, _⟩, h4⟩ := h
  exact ⟨name_calm h1, print_calm (List.all_eq_true.2 h4), fun n hn => name_calm (h2 n hn), fun n hn => name_calm (h3 n hn)⟩
theorem units_may : ∀ {l acc : List Srv}, unitsOk acc l = true → ∀ u ∈ l, mayU u = true
  | [], _, _, u, hu => by cases hu
  | v :: l, acc, h, u, hu => by
    unfold unitsOk at h
    simp only [Bool.and_eq_true] at h
    rcases List.mem_cons.1 hu with rfl | hu
    · exact h.1.1.1
    · exact units_may h.2 u hu
theorem trim_etc (p : Txt) : trimE ([101, 116, 99, 47] ++ p) = p := by
  unfold trimE
  rw [if_pos (by rw [List.isPrefixOf_iff_prefix]; exact List.prefix_append _ _)]
  rfl
/-- A system's own entries are read as that system. -/
theorem sys_own {s : SysP} (h : rightS s = true) : sysR (laidS s) = some s := by
  have hp := right_parts h
  have e : partS (laidS s) = s := by
    unfold partS
    rw [laid_drop, laid_lastD, sys_back (fun n hn => name_calm (hp.2.2.2.1 n hn)) (fun u hu => may_calm (units_may hp.2.2.2.2.2.1 u hu))]
    have e1 : (s.files.map (fun x => (⟨[101, 116, 99, 47] ++ x.path, x.kind, x.data⟩ : Ent))).map partE = s.files := by
      rw [List.map_map]
      refine (List.map_congr_left (g := id) (fun x _ => ?_)).trans (List.map_id _)
      show (⟨trimE ([101, 116, 99, 47] ++ x.path), x.kind, x.data⟩ : Ent) = x
      rw [trim_etc]
    rw [e1]
  unfold sysR
  rw [e, if_pos ⟨by unfold laidS; simp, h, rfl⟩]
/-- Read line by line, from the front: what is left. -/
theorem text_none (s : SysP) : sysText s [] = s := by
  unfold sysText
  show sysLine s [] = s
  unfold sysLine
  rw [if_neg (by decide), if_neg (by decide)]
  have e4 : (fun u : Srv => (moreU u (wordT []) (behindT [])).1) = fun u => u := by
    funext u
    unfold moreU
    rw [if_neg (by decide), if_neg (by decide), if_neg (by decide)]
  rw [e4, last_id]
theorem text_last (s : SysP) {a : Txt} (h : (10 : UInt8) ∉ a) : sysText s a = sysText (sysLine s a) [] := by
  rw [text_none]
  unfold sysText
  have e : ∀ a : Txt, (10 : UInt8) ∉ a → splitN 10 a = [a] := fun a => by
    induction a with
    | nil => intro _; rfl
    | cons x a ih =>
      intro h
      rw [splitN, if_neg (fun e => h (by rw [e]; exact List.mem_cons_self)), ih (fun hm => h (List.mem_cons_of_mem _ hm))]
  rw [e a h]
  rfl
/-! How much a system's text holds -/
def lenL (l : List Txt) : Nat := (l.map List.length).sum
theorem lenL_cons (a : Txt) (l : List Txt) : lenL (a :: l) = a.length + lenL l := by simp [lenL]
theorem lenL_append (a b : List Txt) : lenL (a ++ b) = lenL a + lenL b := by simp [lenL]
theorem split_len (c : UInt8) : ∀ t : Txt, lenL (splitN c t) ≤ t.length
  | [] => by simp [splitN, lenL]
  | x :: t => by
    have ih := split_len c t
    unfold splitN
    split
    · rw [lenL_cons]; simp; omega
    · split
      · simp [lenL]
      · rename_i p q he
        rw [he, lenL_cons] at ih
        rw [lenL_cons]
        simp only [List.length_cons]
        omega
theorem split_pre {c : UInt8} {t : Txt} {pre : List Txt} (h : pre <+: splitN c t) : lenL pre ≤ t.length := by
  obtain ⟨b, hb⟩ := h
  have := split_len c t
  rw [← hb, lenL_append] at this
  omega
/-- Every list of a system is at most k long, every text at most m. -/
structure CapS (s : SysP) (k m : Nat) : Prop where
  users : s.users.length ≤ k
  units : s.units.length ≤ k
  lists : ∀ u ∈ s.units, u.req.length ≤ k ∧ u.aft.length ≤ k
  texts : ∀ t ∈ s.users, t.length ≤ m
  names : ∀ u ∈ s.units, u.name.length ≤ m ∧ u.start.length ≤ m ∧ (∀ t ∈ u.req, t.length ≤ m) ∧ ∀ t ∈ u.aft, t.length ≤ m
theorem CapS.more {s : SysP} {k k' m : Nat} (h : CapS s k m) (hk : k ≤ k') : CapS s k' m :=
  ⟨Nat.le_trans h.users hk, Nat.le_trans h.units hk, fun u hu => ⟨Nat.le_trans (h.lists u hu).1 hk, Nat.le_trans (h.lists u hu).2 hk⟩, h.texts, h.names⟩
theorem behind_le (l : Txt) : (behindT l).length ≤ l.length := by
  unfold behindT
  rw [List.length_drop]
  have h1 := (List.dropWhile_sublist (fun x => decide (x ≠ 32)) (l := l)).length_le
  omega
theorem CapS.nil (F : List Ent) (m : Nat) : CapS ⟨F, [], []⟩ 0 m := ⟨Nat.le_refl _, Nat.le_refl _, (fun u h => by cases h), (fun u h => by cases h), fun u h => by cases h⟩
theorem CapS.line {s : SysP} {k m : Nat} (h : CapS s k m) {l : Txt} (hl : l.length ≤ m) : CapS (sysLine s l) (k + l.length) m := by
  cases l with
  | nil =>
    have e : sysLine s [] = s := text_none s
    rw [e]
    exact h.more (by simp)
  | cons x l =>
    have hb : (behindT (x :: l)).length ≤ m := Nat.le_trans (behind_le _) hl
    have h1 := h.more (show k ≤ k + (x :: l).length by omega)
    have hk : k + 1 ≤ k + (x :: l).length := by simp
    generalize k + (x :: l).length = k' at *
    unfold sysLine
    generalize behindT (x :: l) = b at *
    split
    · refine ⟨by have := h.users; simp; omega, h1.units, h1.lists, fun t ht => ?_, h1.names⟩
      rcases List.mem_append.1 ht with ht | ht
      · exact h.texts t ht
      · rw [List.mem_singleton.1 ht]; exact hb
    · split
      · refine ⟨h1.users, by have := h.units; simp; omega, fun u hu => ?_, h1.texts, fun u hu => ?_⟩
        · rcases List.mem_append.1 hu with hu | hu
          · exact h1.lists u hu
          · rw [List.mem_singleton.1 hu]; exact ⟨Nat.zero_le _, Nat.zero_le _⟩
        · rcases List.mem_append.1 hu with hu | hu
          · exact h1.names u hu
          · rw [List.mem_singleton.1 hu]; exact ⟨hb, Nat.zero_le _, (fun t ht => by cases ht), fun t ht => by cases ht⟩
      · rcases List.eq_nil_or_concat s.units with e | ⟨M, u, e⟩
        · have e2 : ∀ f, lastU s.units f = s.units := fun f => by rw [e]; rfl
          rw [e2]
          exact ⟨h1.users, h1.units, h1.lists, h1.texts, h1.names⟩
        · rw [List.concat_eq_append] at e
          have hu := h.lists u (by rw [e]; simp)
          have hn := h.names u (by rw [e]; simp)
          have hm : (moreU u (wordT (x :: l)) b).1.req.length ≤ k' ∧ (moreU u (wordT (x :: l)) b).1.aft.length ≤ k' ∧ (moreU u (wordT (x :: l)) b).1.name.length ≤ m ∧ (moreU u (wordT (x :: l)) b).1.start.length ≤ m ∧ (∀ t ∈ (moreU u (wordT (x :: l)) b).1.req, t.length ≤ m) ∧ ∀ t ∈ (moreU u (wordT (x :: l)) b).1.aft, t.length ≤ m := by
            unfold moreU
            split
            · exact ⟨by simp only; omega, by simp only; omega, hn.1, hb, hn.2.2.1, hn.2.2.2⟩
            · split
              · refine ⟨by simp only [List.length_append, List.length_singleton]; omega, by simp only; omega, hn.1, hn.2.1, fun t ht => ?_, hn.2.2.2⟩
                rcases List.mem_append.1 ht with ht | ht
                · exact hn.2.2.1 t ht
                · rw [List.mem_singleton.1 ht]; exact hb
              · split
                · refine ⟨by simp only; omega, by simp only [List.length_append, List.length_singleton]; omega, hn.1, hn.2.1, hn.2.2.1, fun t ht => ?_⟩
                  rcases List.mem_append.1 ht with ht | ht
                  · exact hn.2.2.2 t ht
                  · rw [List.mem_singleton.1 ht]; exact hb
                · exact ⟨by simp only; omega, by simp only; omega, hn.1, hn.2.1, hn.2.2.1, hn.2.2.2⟩
          have e3 := last_app M u (fun u => (moreU u (wordT (x :: l)) b).1)
          rw [← e] at e3
          rw [e3]
          refine ⟨h1.users, ?_, fun v hv => ?_, h1.texts, fun v hv => ?_⟩
          · have := h1.units
            rw [e] at this
            simpa using this
          · rcases List.mem_append.1 hv with hv | hv
            · exact h1.lists v (by rw [e]; exact List.mem_append.2 (.inl hv))
            · rw [List.mem_singleton.1 hv]; exact ⟨hm.1, hm.2.1⟩
          · rcases List.mem_append.1 hv with hv | hv
            · exact h1.names v (by rw [e]; exact List.mem_append.2 (.inl hv))
            · rw [List.mem_singleton.1 hv]; exact hm.2.2
theorem CapS.fold : ∀ (l : List Txt) {s : SysP} {k m : Nat}, CapS s k m → (∀ t ∈ l, t.length ≤ m) → CapS (l.foldl sysLine s) (k + lenL l) m
  | [], s, k, m, h, _ => by simpa [lenL] using h
  | a :: l, s, k, m, h, hl => by
    rw [List.foldl_cons, lenL_cons, ← Nat.add_assoc]
    exact CapS.fold l (h.line (hl a List.mem_cons_self)) (fun t ht => hl t (List.mem_cons_of_mem _ ht))
theorem split_mem {c : UInt8} {t a : Txt} (h : a ∈ splitN c t) : a.length ≤ t.length := by
  have h1 := split_len c t
  obtain ⟨p, q, e⟩ := List.append_of_mem h
  rw [e, lenL_append, lenL_cons] at h1
  omega
/-- A text is cut where its first byte of a kind stands. -/
theorem front_at {c : UInt8} {s : Txt} {k : Nat} (hk : k ≤ s.length) (h : ∀ x ∈ s.take k, x ≠ c) (he : k = s.length ∨ s[k]? = some c) :
    s.takeWhile (fun x => decide (x ≠ c)) = s.take k ∧ (s.dropWhile fun x => decide (x ≠ c)) = s.drop k := by
  have e : s = s.take k ++ s.drop k := (List.take_append_drop k s).symm
  have h1 : ∀ x ∈ s.take k, decide (x ≠ c) = true := fun x hx => decide_eq_true (h x hx)
  have h2 : (s.drop k).takeWhile (fun x => decide (x ≠ c)) = [] ∧ (s.drop k).dropWhile (fun x => decide (x ≠ c)) = s.drop k := by
    cases hd : s.drop k with
    | nil => exact ⟨rfl, rfl⟩
    | cons y t =>
      have hy : y = c := by
        rcases he with he | he
        · rw [he, List.drop_length] at hd; cases hd
        · have h5 : (s.drop k)[0]? = some c := by rw [List.getElem?_drop]; simpa using he
          rw [hd] at h5
          simpa using h5
      subst hy
      exact ⟨by rw [List.takeWhile_cons_of_neg (by simp)], by rw [List.dropWhile_cons_of_neg (by simp)]⟩
  constructor
  · conv => lhs; rw [e]
    rw [List.takeWhile_append_of_pos h1, h2.1, List.append_nil]
  · conv => lhs; rw [e]
    rw [List.dropWhile_append_of_pos h1, h2.2]
end Go.Proofs.YtibndaianhlcaaaGreatDoor
namespace Go.Proofs.YtibndaianhlcaaaGreatDoor
open Go.RowKit
set_option linter.unusedVariables false

variable {F : Fence} {n : Nat} {P : Program}

/-- What an iterator promises that writes nothing but the one cell ⟨bs, 0⟩: whatever a round's invariant J is that does not mind that cell's turns and draws. -/
def SeqC {α : Type} (F : Fence) (n : Nat) (P : Program) (gf : Nat) (lb : Array Value) (enc : α → Array Value) (Kp : World → World → Prop) (S Sp : List α → Prop) (bs : Nat) (W : World) : Prop :=
  ∀ (l : Nat) (J Jx : List α → World → Prop), (∀ s A v, J s A → J s (A.setCell ⟨bs, 0, none⟩ v)) → (∀ s A, J s A → J s A.drew) →
    (∀ pre x A, J pre A → Sp (pre ++ [x]) → YieldAt F (n - 1) P l (enc x) A fun e B =>
      (e = .returned (.bool true) ∧ J (pre ++ [x]) B ∧ Kp A B) ∨ (e = .returned (.bool false) ∧ Jx (pre ++ [x]) B)) →
    J [] W →
    CallsIn F n P gf (#[.func (.yield l) #[] #[]] ++ lb) W fun e B => (∃ v, e = .returned v) ∧ ((∃ xs, S xs ∧ J xs B) ∨ (∃ pre, Sp pre ∧ Jx pre B))

/-- The loop's two blocks (D: the rounds' deferred calls; D + 1: the record) lie as they lay. -/
structure RecKept (D : Nat) (A B : World) : Prop where
  size : A.heap.size ≤ B.heap.size
  mark : B.heap[D]? = A.heap[D]?
  rec_ : B.heap[D + 1]? = A.heap[D + 1]?
/-- How a round may end: it goes on, or it returns. -/
def bodyQ {α : Type} (D : Nat) (Kp : World → World → Prop) (I Ix : List α → World → Prop) (xs : List α) (A : World) : Exit → Act → World → Prop
  | .normal, _, B => RecKept D A B ∧ Kp A B ∧ I xs B
  | .ret, _, B => RecKept D A B ∧ Ix xs B
  | _, _, _ => False

theorem range_cell {α : Type} {g : Operand} {ps : Array Tmp} {assign body : Code} {Q : Exit → Act → World → Prop} {a : Act} {w : World}
    (hro : F.round = none) (h1 : 1 ≤ n) {gf : Nat} {lb : Array Value} (hg : a.eval g = .func (.func gf) #[] lb) (hFg : F.fn gf) (eg : ∀ args w, (callFunc gf args).run P w = .ok (.enter gf args) w)
    {enc : α → Array Value} {Kp : World → World → Prop} {S Sp : List α → Prop} {bs : Nat}
    (hseq : ∀ W, Below w.heap.size w W → SeqC F (n - 1) P gf lb enc Kp S Sp bs W) (hbs : bs < w.heap.size)
    (hKt : ∀ {A B C : World}, Kp A B → Kp B C → Kp A C) (hKb : ∀ (A : World) (o : Obj), Kp A (A.putObj (w.heap.size + 1) o)) (hps : ∀ x, (enc x).size = ps.size)
    (I Ix : List α → World → Prop) (hIa : ∀ s A o, I s A → I s (A.alloc o)) (hIp : ∀ s A o, w.heap.size + 1 < A.heap.size → I s A → I s (A.putObj (w.heap.size + 1) o)) (hIc : ∀ s A v, I s A → I s (A.setCell ⟨bs, 0, none⟩ v)) (hId : ∀ s A, I s A → I s A.drew)
    (hXp : ∀ s A o, w.heap.size + 1 < A.heap.size → Ix s A → Ix s (A.putObj (w.heap.size + 1) o)) (h0 : I [] w) (a₁ : α → Act)
    (hassign : ∀ (l : Nat) (x : α) (W : World) (K : Act → World → Prop), K (a₁ x) W →
      assign.wpIn (F.inRound l) (n - 1 - 1) P (Exit.then K (fun _ _ _ => False)) { tmps := (ps.zip (enc x)).foldl (fun t (p, v) => t.setIfInBounds p v) a.tmps, defers := [] } W)
    (hbody : ∀ (l : Nat) (pre : List α) (x : α) (W : World), I pre W → Sp (pre ++ [x]) → w.heap.size + 1 < W.heap.size → body.wpIn (F.inRound l) (n - 1 - 1) P (bodyQ w.heap.size Kp I Ix (pre ++ [x]) W) (a₁ x) W)
    (hdone : ∀ (xs : List α) (W : World), S xs → I xs W → w.heap.size + 1 < W.heap.size → W.heap[w.heap.size]? = some (.deferred (some [])) → Q .normal { a with defers := { target := .collected w.heap.size, args := #[] } :: a.defers } W)
    (hstop : ∀ (pre : List α) (W : World), Sp pre → Ix pre W → w.heap.size + 1 < W.heap.size → W.heap[w.heap.size]? = some (.deferred (some [])) → Code.ret.wpIn F n P Q { a with defers := { target := .collected w.heap.size, args := #[] } :: a.defers } W) :
    (Code.rangeFunc g ps assign body).wpIn F n P Q a w := by
  refine wpIn_rangeFunc fun fn hfn => ?_
  rw [hro]
  obtain ⟨L, hL⟩ : ∃ L : LoopState → Option Code → Loop, L = fun st pe => { state := st, pending := pe, fn, tmps := a.tmps, params := ps, assign, body, defers := w.heap.size } := ⟨_, rfl⟩
  obtain ⟨W1, hW1⟩ : ∃ W1, W1 = (w.alloc (.deferred (some []))).alloc (.loop (L .ready none)) := ⟨_, rfl⟩
  have hb1 : Below w.heap.size w W1 := by rw [hW1]; exact ((Below.refl _ w).alloc (Nat.le_refl _) _).alloc (by simp) _
  have hrec1 : W1.heap[w.heap.size + 1]? = some (.loop (L .ready none)) := by
    rw [hW1]
    have := World.alloc_heap_new (w.alloc (.deferred (some []))) (.loop (L .ready none))
    rwa [World.size_alloc] at this
  have hmark1 : W1.heap[w.heap.size]? = some (.deferred (some [])) := by
    rw [hW1]
    exact (Below.heap_alloc _ _ _ (by simp)).trans (World.alloc_heap_new w _)
  have hI1 : I [] W1 := by rw [hW1]; exact hIa _ _ _ (hIa _ _ _ h0)
  refine ⟨w.heap.size + 1, [{ target := .collected w.heap.size, args := #[] }], W1, { target := .fn (.func gf) lb, args := #[.func (.yield (w.heap.size + 1)) #[] #[]] }, W1, gf,
    #[.func (.yield (w.heap.size + 1)) #[] #[]] ++ lb, W1, ?_, ?_, ?_, ?_, fun _ => h1, ?_⟩
  · rw [hW1, hL]; exact run_enterLoop_outer _ _ _ _ _
  · simp only [resolve, hg]
    simp [go_sem]
  · intro f' hf'; simp [Target.leads] at hf'; subst hf'; exact hFg
  · simp [invoke, go_sem, eg]
  have hset : ∀ (A : World) (v : Value) (k : Nat), k = w.heap.size ∨ k = w.heap.size + 1 → (A.setCell ⟨bs, 0, none⟩ v).heap[k]? = A.heap[k]? := fun A v k hk =>
    Below.heap_setCell A ⟨bs, 0, none⟩ v k (by simp only; omega)
  refine (hseq W1 hb1 (w.heap.size + 1)
    (fun pre A => I pre A ∧ A.heap[w.heap.size + 1]? = some (.loop (L .ready none)) ∧ A.heap[w.heap.size]? = some (.deferred (some [])))
    (fun pre A => Ix pre A ∧ A.heap[w.heap.size + 1]? = some (.loop (L .done (some .ret))) ∧ A.heap[w.heap.size]? = some (.deferred (some [])))
    (fun s A v h => ⟨hIc s A v h.1, (hset A v _ (.inr rfl)).trans h.2.1, (hset A v _ (.inl rfl)).trans h.2.2⟩) (fun s A h => ⟨hId s A h.1, h.2.1, h.2.2⟩) ?_ ⟨hI1, hrec1, hmark1⟩).mono ?_
  · rintro pre x A ⟨hi, hl, hk⟩ hlen
    have hlt : w.heap.size + 1 < A.heap.size := (Array.getElem?_eq_some_iff.1 hl).1
    have hy := run_yield (P := P) (args := enc x) hl (by rw [hL]; exact hps x)
    have hbeg := run_beginRound (P := P) hl (by rw [hL])
    obtain ⟨A2, hA2⟩ : ∃ A2, A2 = A.putObj (w.heap.size + 1) (.loop { L .ready none with state := .busy }) := ⟨_, rfl⟩
    rw [← hA2] at hbeg
    have hl2 : A2.heap[w.heap.size + 1]? = some (.loop { L .ready none with state := .busy }) := by rw [hA2]; exact World.putObj_heap_same hlt
    have hk2 : A2.heap[w.heap.size]? = some (.deferred (some [])) := by rw [hA2]; exact (World.putObj_heap_other (by omega)).trans hk
    have hlt2 : w.heap.size + 1 < A2.heap.size := (Array.getElem?_eq_some_iff.1 hl2).1
    have hi2 : I pre A2 := by rw [hA2]; exact hIp _ _ _ hlt hi
    have hKp2 : Kp A A2 := by rw [hA2]; exact hKb _ _
    have hbusy : ({ L .ready none with state := .busy } : Loop) = L .busy none := by rw [hL]
    rw [hbusy] at hl2
    have fin : ∀ (jump : Option Code) (B : World), RecKept w.heap.size A2 B →
        (Instr.endRound (w.heap.size + 1) jump).run P B = .ok (.bool jump.isNone) (B.putObj (w.heap.size + 1) (.loop (L (if jump.isNone then .ready else .done) jump))) ∧ w.heap.size + 1 < B.heap.size ∧
        (B.putObj (w.heap.size + 1) (.loop (L (if jump.isNone then .ready else .done) jump))).heap[w.heap.size + 1]? = some (.loop (L (if jump.isNone then .ready else .done) jump)) ∧
        (B.putObj (w.heap.size + 1) (.loop (L (if jump.isNone then .ready else .done) jump))).heap[w.heap.size]? = some (.deferred (some [])) := fun jump B hB => by
      have hl3 : B.heap[w.heap.size + 1]? = some (.loop (L .busy none)) := hB.rec_.trans hl2
      have hr := run_endRound (P := P) jump hl3
      have he : ({ L .busy none with state := if jump.isNone then .ready else .done, pending := jump } : Loop) = L (if jump.isNone then .ready else .done) jump := by rw [hL]
      rw [he] at hr
      have hlt3 := (Array.getElem?_eq_some_iff.1 hl3).1
      exact ⟨hr, hlt3, World.putObj_heap_same hlt3, (World.putObj_heap_other (by omega)).trans (hB.mark.trans hk2)⟩
    have hyf : (L .ready none).fn = fn := by rw [hL]
    have hyt : (L .ready none).tmps = a.tmps := by rw [hL]
    have hyp : (L .ready none).params = ps := by rw [hL]
    have hya : (L .ready none).assign = assign := by rw [hL]
    have hyb : (L .ready none).body = body := by rw [hL]
    rw [hyf, hyt, hyp, hya, hyb] at hy
    refine ⟨fn, _, assign, body, hy, roundIn_of_wpIn hfn (hassign _ x A _ ⟨A2, hbeg, wpIn_mono (hbody _ pre x A2 hi2 hlen hlt2) ?_⟩)⟩
    rintro e a3 B hp
    cases e with
    | normal =>
      obtain ⟨hr, hkp, hi3⟩ := hp
      obtain ⟨q1, q2, q3, q4⟩ := fin none B hr
      exact ⟨_, _, q1, .inl ⟨rfl, ⟨hIp _ _ _ q2 hi3, q3, q4⟩, hKt (hKt hKp2 hkp) (hKb _ _)⟩⟩
    | ret =>
      obtain ⟨hr, hx3⟩ := hp
      obtain ⟨q1, q2, q3, q4⟩ := fin (some .ret) B hr
      exact ⟨_, _, q1, .inr ⟨rfl, hXp _ _ _ q2 hx3, q3, q4⟩⟩
    | exit id => exact hp.elim
    | goto t => exact hp.elim
    | panic ch => exact hp.elim
    | outgrown => exact hp.elim
  · rintro e B ⟨⟨v, rfl⟩, (⟨xs, hS, hi, hl, hk⟩ | ⟨pre, hSp, hi, hl, hk⟩)⟩
    · have hlt := (Array.getElem?_eq_some_iff.1 hl).1
      have hend := run_endLoop (P := P) hl (by rw [hL]; simp)
      have hp : (L .ready none).pending = none := by rw [hL]
      rw [hp] at hend
      exact ⟨none, _, hend, hdone xs _ hS (hIp _ _ _ hlt hi) (by simpa using hlt) ((World.putObj_heap_other (by omega)).trans hk)⟩
    · have hlt := (Array.getElem?_eq_some_iff.1 hl).1
      have hend := run_endLoop (P := P) hl (by rw [hL]; simp)
      have hp : (L .done (some .ret)).pending = some .ret := by rw [hL]
      rw [hp] at hend
      exact ⟨some .ret, _, hend, hstop pre _ hSp (hXp _ _ _ hlt hi) (by simpa using hlt) ((World.putObj_heap_other (by omega)).trans hk)⟩
end Go.Proofs.YtibndaianhlcaaaGreatDoor
namespace Go.Proofs
open Go.Shelf
def Tryz.lays103_ren : Go.Shelf.Ren := ⟨fun | 103 => 132 | 210 => 155 | 206 => 107 | n => n, fun | 9 => 9 | 4 => 4 | 24 => 76 | 3 => 3 | n => n, fun | n => n⟩
theorem Tryz.lays103 : Go.Proofs.Lays.n103 Tryz.prog Tryz.lays103_ren := {
  mixed := by kernel_rfl
  f103 := Tryz.func132.trans (congrArg some (by kernel_rfl))
  f206 := Tryz.func107.trans (congrArg some (by kernel_rfl))
  f210 := Tryz.func155.trans (congrArg some (by kernel_rfl))
  t3 := Tryz.underlying3
  a3 := Tryz.isAgg3
  z3 := Tryz.sizeOf3
  v3 := Tryz.zeroValue3
  t4 := Tryz.underlying4
  a4 := Tryz.isAgg4
  z4 := Tryz.sizeOf4
  v4 := Tryz.zeroValue4
  t9 := Tryz.underlying9
  a9 := Tryz.isAgg9
  z9 := Tryz.sizeOf9
  v9 := Tryz.zeroValue9
  t24 := Tryz.underlying76
  a24 := Tryz.isAgg76
  z24 := Tryz.sizeOf76
  v24 := Tryz.zeroValue76 }
open Go.RowKit in
/-- strings.CutPrefix: "CutPrefix returns s without the provided leading prefix string and reports whether it found the prefix. If s doesn't start with prefix, CutPrefix returns s, false. If prefix is the empty string, CutPrefix returns s, true.": IT RETURNS '(Lib.trimPrefix s p, Lib.hasPrefix s p)'; the world is as it was. (LAID: no walk: one application.) -/
theorem Tryz.strings_CutPrefix (s p : ByteArray) (w : World) :
    Calls Tryz.prog 132 #[.string s, .string p] w fun e w' => e = .returned (.tuple #[.string ⟨(Lib.trimPrefix s.data.toList p.data.toList).toArray⟩, .bool (Lib.hasPrefix s.data.toList p.data.toList)]) ∧ w' = w := Any.strings_CutPrefix Tryz.lays103 s p w
def Tryz.lays143_ren : Go.Shelf.Ren := ⟨fun | 143 => 123 | 219 => 124 | 217 => 144 | 225 => 145 | 224 => 146 | 267 => 147 | 266 => 161 | 314 => 162 | n => n, fun | 9 => 9 | 3 => 3 | 4 => 4 | 5 => 5 | 46 => 159 | 146 => 179 | 51 => 178 | n => n, fun | 1 => 0 | n => n⟩
theorem Tryz.lays143 : Go.Proofs.Lays.n143 Tryz.prog Tryz.lays143_ren := {
  mixed := by kernel_rfl
  f143 := Tryz.func123.trans (congrArg some (by kernel_rfl))
  f217 := Tryz.func144.trans (congrArg some (by kernel_rfl))
  f219 := Tryz.func124.trans (congrArg some (by kernel_rfl))
  f224 := Tryz.func146.trans (congrArg some (by kernel_rfl))
  f225 := Tryz.func145.trans (congrArg some (by kernel_rfl))
  f266 := Tryz.func161.trans (congrArg some (by kernel_rfl))
  f267 := Tryz.func147.trans (congrArg some (by kernel_rfl))
  f314 := Tryz.func162.trans (congrArg some (by kernel_rfl))
  t3 := Tryz.underlying3
  a3 := Tryz.isAgg3
  z3 := Tryz.sizeOf3
  v3 := Tryz.zeroValue3
  t4 := Tryz.underlying4
  a4 := Tryz.isAgg4
  z4 := Tryz.sizeOf4
  v4 := Tryz.zeroValue4
  t5 := Tryz.underlying5
  a5 := Tryz.isAgg5
  z5 := Tryz.sizeOf5
  v5 := Tryz.zeroValue5
  t9 := Tryz.underlying9
  a9 := Tryz.isAgg9
  z9 := Tryz.sizeOf9
  v9 := Tryz.zeroValue9
  t46 := Tryz.underlying159
  a46 := Tryz.isAgg159
  z46 := Tryz.sizeOf159
  v46 := Tryz.zeroValue159
  t51 := Tryz.underlying178
  a51 := Tryz.isAgg178
  z51 := Tryz.sizeOf178
  v51 := Tryz.zeroValue178
  t146 := Tryz.underlying179
  a146 := Tryz.isAgg179
  z146 := Tryz.sizeOf179
  v146 := Tryz.zeroValue179
  g1 := by kernel_rfl }
open Go.RowKit Go.Lib in
/-- strings.Index: "Index returns the index of the first instance of substr in s, or -1 if substr is not present in s.": AT A substr OF ONE BYTE c: IT RETURNS 'Lib.indexByte s c'; the world is as it was. (LAID: no walk: one application.) -/
theorem Tryz.strings_Index_one (s : ByteArray) (c : UInt8) (w : World) :
    Calls Tryz.prog 123 #[.string s, .string ⟨#[c]⟩] w fun e w' => e = .returned (.int .i64 (Lib.indexByte s.data.toList c)) ∧ w' = w := Any.strings_Index_one Tryz.lays143 s c w
def Tryz.lays138_ren : Go.Shelf.Ren := ⟨fun | 138 => 105 | 195 => 130 | 218 => 131 | 143 => 123 | 219 => 124 | 217 => 144 | 225 => 145 | 224 => 146 | 267 => 147 | 266 => 161 | 314 => 162 | n => n, fun | 9 => 9 | 3 => 3 | 4 => 4 | 5 => 5 | 0 => 0 | 46 => 159 | 146 => 179 | 51 => 178 | n => n, fun | 1 => 0 | n => n⟩
theorem Tryz.lays138 : Go.Proofs.Lays.n138 Tryz.prog Tryz.lays138_ren := {
  mixed := by kernel_rfl
  f138 := Tryz.func105.trans (congrArg some (by kernel_rfl))
  f143 := Tryz.func123.trans (congrArg some (by kernel_rfl))
  f195 := Tryz.func130.trans (congrArg some (by kernel_rfl))
  f217 := Tryz.func144.trans (congrArg some (by kernel_rfl))
  f218 := Tryz.func131.trans (congrArg some (by kernel_rfl))
  f219 := Tryz.func124.trans (congrArg some (by kernel_rfl))
  f224 := Tryz.func146.trans (congrArg some (by kernel_rfl))
  f225 := Tryz.func145.trans (congrArg some (by kernel_rfl))
  f266 := Tryz.func161.trans (congrArg some (by kernel_rfl))
  f267 := Tryz.func147.trans (congrArg some (by kernel_rfl))
  f314 := Tryz.func162.trans (congrArg some (by kernel_rfl))
  t0 := Tryz.underlying0
  a0 := Tryz.isAgg0
  z0 := Tryz.sizeOf0
  v0 := Tryz.zeroValue0
  t3 := Tryz.underlying3
  a3 := Tryz.isAgg3
  z3 := Tryz.sizeOf3
  v3 := Tryz.zeroValue3
  t4 := Tryz.underlying4
  a4 := Tryz.isAgg4
  z4 := Tryz.sizeOf4
  v4 := Tryz.zeroValue4
  t5 := Tryz.underlying5
  a5 := Tryz.isAgg5
  z5 := Tryz.sizeOf5
  v5 := Tryz.zeroValue5
  t9 := Tryz.underlying9
  a9 := Tryz.isAgg9
  z9 := Tryz.sizeOf9
  v9 := Tryz.zeroValue9
  t46 := Tryz.underlying159
  a46 := Tryz.isAgg159
  z46 := Tryz.sizeOf159
  v46 := Tryz.zeroValue159
  t51 := Tryz.underlying178
  a51 := Tryz.isAgg178
  z51 := Tryz.sizeOf178
  v51 := Tryz.zeroValue178
  t146 := Tryz.underlying179
  a146 := Tryz.isAgg179
  z146 := Tryz.sizeOf179
  v146 := Tryz.zeroValue179
  g1 := by kernel_rfl }
open Go.RowKit Go.Lib in
/-- strings.Count AT A substr OF ONE BYTE ('hp'): "Count counts the number of non-overlapping instances of substr in s.": IT RETURNS 'Lib.countByte s (that byte)'; the world is as it was. ✋ NO CONTRACT HERE YET at an empty substr (utf8.RuneCountInString) or at a longer one (a loop over strings.Index). (LAID: no walk: one application.) -/
theorem Tryz.strings_Count_one (s : ByteArray) (c : UInt8) (w : World) :
    Calls Tryz.prog 105 #[.string s, .string ⟨#[c]⟩] w fun e w' => e = .returned (.int .i64 (Lib.countByte s.data.toList c)) ∧ w' = w := Any.strings_Count_one Tryz.lays138 s c w
def Tryz.lays99_ren : Go.Shelf.Ren := ⟨fun | 99 => 81 | 206 => 107 | n => n, fun | 9 => 9 | 4 => 4 | 3 => 3 | n => n, fun | n => n⟩
theorem Tryz.lays99 : Go.Proofs.Lays.n99 Tryz.prog Tryz.lays99_ren := {
  mixed := by kernel_rfl
  f99 := Tryz.func81.trans (congrArg some (by kernel_rfl))
  f206 := Tryz.func107.trans (congrArg some (by kernel_rfl))
  t3 := Tryz.underlying3
  a3 := Tryz.isAgg3
  z3 := Tryz.sizeOf3
  v3 := Tryz.zeroValue3
  t4 := Tryz.underlying4
  a4 := Tryz.isAgg4
  z4 := Tryz.sizeOf4
  v4 := Tryz.zeroValue4
  t9 := Tryz.underlying9
  a9 := Tryz.isAgg9
  z9 := Tryz.sizeOf9
  v9 := Tryz.zeroValue9 }
open Go.RowKit Go.Lib in
/-- strings.HasPrefix: "HasPrefix reports whether the string s begins with prefix.": IT RETURNS 'Lib.hasPrefix s prefix'; the world is as it was. (LAID: no walk: one application.) -/
theorem Tryz.strings_HasPrefix (s p : ByteArray) (w : World) :
    Calls Tryz.prog 81 #[.string s, .string p] w fun e w' => e = .returned (.bool (Lib.hasPrefix s.data.toList p.data.toList)) ∧ w' = w := Any.strings_HasPrefix Tryz.lays99 s p w
end Go.Proofs
namespace Go.Proofs.YtibndaianhlcaaaGreatDoor
open Go.RowKit

/-- From w to w' only blocks of F have turned; F' is F, less some, and blocks that are new. -/
structure Step (w w' : World) (F F' : Nat → Prop) : Prop where
  os : w'.os = w.os
  tape : w'.tape = w.tape
  output : w'.output = w.output
  size : w.heap.size ≤ w'.heap.size
  block : ∀ k, k < w.heap.size → ¬ F k → w'.heap[k]? = w.heap[k]?
  next : ∀ k, F' k → F k ∨ w.heap.size ≤ k

theorem Step.refl (w : World) (F : Nat → Prop) : Step w w F F := ⟨rfl, rfl, rfl, Nat.le_refl _, fun _ _ _ => rfl, fun _ h => .inl h⟩
theorem Step.trans {a b c : World} {F G K : Nat → Prop} (h : Step a b F G) (k : Step b c G K) : Step a c F K :=
  ⟨k.os.trans h.os, k.tape.trans h.tape, k.output.trans h.output, Nat.le_trans h.size k.size, fun i hi hn => by
      rw [k.block i (Nat.lt_of_lt_of_le hi h.size) (fun hg => by rcases h.next i hg with h1 | h1; exact hn h1; omega), h.block i hi hn],
    fun i hi => by
      rcases k.next i hi with h1 | h1
      · exact h.next i h1
      · exact .inr (Nat.le_trans h.size h1)⟩
theorem Step.of_below {w w' : World} (h : Below w.heap.size w w') (F : Nat → Prop) : Step w w' F F :=
  ⟨h.os, h.tape, h.output, h.size, fun k hk _ => h.block k hk, fun _ h => .inl h⟩
theorem Step.below {w w' : World} {F F' : Nat → Prop} {B : Nat} (h : Step w w' F F') (hB : B ≤ w.heap.size) (hF : ∀ k, F k → B ≤ k) : Below B w w' :=
  ⟨h.os, h.tape, h.output, h.size, fun k hk => h.block k (by omega) (fun hf => by have := hF k hf; omega)⟩
theorem Step.from_ {w w' : World} {F F' : Nat → Prop} {B : Nat} (h : Step w w' F F') (hB : B ≤ w.heap.size) (hF : ∀ k, F k → B ≤ k) : ∀ k, F' k → B ≤ k := fun k hk => by
  rcases h.next k hk with h1 | h1
  · exact hF k h1
  · omega
theorem Step.drew {a w : World} {F G : Nat → Prop} (h : Step a w F G) : Step a w.drew F G := ⟨h.os, h.tape, h.output, h.size, h.block, h.next⟩
theorem Step.drewN {a w : World} {F G : Nat → Prop} (h : Step a w F G) (n : Nat) : Step a (w.drewN n) F G := ⟨h.os, h.tape, h.output, h.size, h.block, h.next⟩
theorem Step.alloc {a w : World} {F G : Nat → Prop} (h : Step a w F G) (o : Obj) : Step a (w.alloc o) F G :=
  ⟨h.os, h.tape, h.output, Nat.le_trans h.size (by simp), fun k hk hn => by rw [Below.heap_alloc w o k (Nat.lt_of_lt_of_le hk h.size)]; exact h.block k hk hn, h.next⟩
theorem Step.setCell {a w : World} {F G : Nat → Prop} (h : Step a w F G) {p : Addr} (hp : F p.block ∨ a.heap.size ≤ p.block) (u : Value) : Step a (w.setCell p u) F G :=
  ⟨h.os, h.tape, h.output, by simpa [World.setCell] using h.size, fun k hk hn => by
    rw [Below.heap_setCell w p u k (by rintro rfl; rcases hp with hp | hp; exact hn hp; omega)]; exact h.block k hk hn, h.next⟩
theorem Step.setRow {a w : World} {F G : Nat → Prop} (h : Step a w F G) {g : Nat} (hp : F g ∨ a.heap.size ≤ g) (cs : Array Value) : Step a (w.setRow g cs) F G :=
  ⟨h.os, h.tape, h.output, by simpa using h.size, fun k hk hn => by
    have : (w.setRow g cs).heap[k]? = w.heap[k]? := by
      simp only [World.setRow, Array.getElem?_modify]
      rw [if_neg (by rintro rfl; rcases hp with hp | hp; exact hn hp; omega)]
    rw [this]; exact h.block k hk hn, h.next⟩
theorem Step.grown {a w w' : World} {F G : Nat → Prop} {row : Option Nat} (h : Step a w F G) (hg : w.grownBy w' row) (hr : ∀ k, row = some k → F k ∨ a.heap.size ≤ k) : Step a w' F G :=
  ⟨hg.os.trans h.os, hg.tape.trans h.tape, hg.output.trans h.output, Nat.le_trans h.size hg.size, fun k hk hn => by
    rw [hg.block k (Nat.lt_of_lt_of_le hk h.size) (fun e => by rcases hr k e.symm with h1 | h1; exact hn h1; omega)]; exact h.block k hk hn, h.next⟩
theorem Step.fewer {a w : World} {F G G' : Nat → Prop} (h : Step a w F G) (hG : ∀ k, G' k → G k ∨ a.heap.size ≤ k) : Step a w F G' :=
  ⟨h.os, h.tape, h.output, h.size, h.block, fun k hk => by rcases hG k hk with h1 | h1; exact h.next k h1; exact .inr h1⟩
theorem Step.wider {a w : World} {F G F' : Nat → Prop} (h : Step a w F G) (hF : ∀ k, F k → F' k) : Step a w F' G :=
  ⟨h.os, h.tape, h.output, h.size, fun k hk hn => h.block k hk (fun hf => hn (hF k hf)), fun k hk => by rcases h.next k hk with h1 | h1; exact .inl (hF k h1); exact .inr h1⟩

theorem Blk.step {w w' : World} {F G : Nat → Prop} {g : Nat} {t : TypeId} {cs : Array Value} (h : Blk w g t cs) (s : Step w w' F G) (hn : ¬ F g) : Blk w' g t cs := (s.block g h.lt hn).trans h
theorem Blk.row {w : World} {g : Nat} {t : TypeId} {cs : Array Value} (h : Blk w g t cs) (cs' : Array Value) : Blk (w.setRow g cs') g t cs' := by
  unfold Blk at h ⊢
  simp [World.setRow, Array.getElem?_modify, h]
theorem Blk.row_far {w : World} {g g' : Nat} {t : TypeId} {cs : Array Value} (h : Blk w g t cs) (hne : g ≠ g') (cs' : Array Value) : Blk (w.setRow g' cs') g t cs := by
  unfold Blk at h ⊢
  simp only [World.setRow, Array.getElem?_modify]
  rw [if_neg (fun e => hne e.symm)]; exact h
theorem Slc.step {w w' : World} {F G : Nat → Prop} {B sz : Nat} {A : Option Addr} {n c : Nat} {xs : List Value} (h : Slc w B sz A n c xs) (s : Step w w' F G) (hB : B ≤ w.heap.size) (hF : ∀ k, F k → B ≤ k) : Slc w' B sz A n c xs :=
  h.below (s.below hB hF)

theorem cells_alloc {w : World} {p : Nat} (h : p < w.heap.size) : ∀ (o : Obj) (i : Nat), (w.alloc o).cell? ⟨p, i, none⟩ = w.cell? ⟨p, i, none⟩ := fun o i =>
  World.cell?_of_block (w := w) (a := ⟨p, i, none⟩) (Below.heap_alloc w o p h)
theorem frozen_alloc {w : World} {p : Nat} (h : p < w.heap.size) : ∀ (o : Obj) (i : Nat), (w.alloc o).frozen? ⟨p, i, none⟩ = w.frozen? ⟨p, i, none⟩ := fun o i =>
  World.frozen?_of_block (w := w) (a := ⟨p, i, none⟩) (Below.heap_alloc w o p h)
theorem cells_far {w : World} {p g : Nat} (h : p ≠ g) : ∀ (cs : Array Value) (i : Nat), (w.setRow g cs).cell? ⟨p, i, none⟩ = w.cell? ⟨p, i, none⟩ := fun cs i => by
  refine World.cell?_of_block (w := w) (a := ⟨p, i, none⟩) ?_
  simp only [World.setRow, Array.getElem?_modify]
  rw [if_neg (fun e => h e.symm)]

/-- A row of the object's: it may be nil only where it is empty. -/
structure Row (w : World) (F : Nat → Prop) (e : TypeId) (sz : Nat) (v : Value) (n : Nat) (xs : List Value) : Prop where
  own : w.ownsRow 0 e sz v n xs
  foot : ∀ k, v.ownBlock = some k → F k

theorem Row.kept {w w' : World} {F G : Nat → Prop} {e : TypeId} {sz : Nat} {v : Value} {n : Nat} {xs : List Value} (h : Row w F e sz v n xs) (hb : ∀ k, v.ownBlock = some k → w'.heap[k]? = w.heap[k]?) (hG : ∀ k, v.ownBlock = some k → G k) : Row w' G e sz v n xs := by
  refine ⟨⟨h.own.1, ?_⟩, hG⟩
  rcases h.own.2 with hn | ⟨g, cap, cur, rfl, h1, h2, rest⟩
  · exact .inl hn
  · exact .inr ⟨g, cap, cur, rfl, h1, by rw [hb g rfl]; exact h2, rest⟩
theorem Row.step {w w' : World} {F G K : Nat → Prop} {e : TypeId} {sz : Nat} {v : Value} {n : Nat} {xs : List Value} (h : Row w F e sz v n xs) (s : Step w w' G K) (hd : ∀ k, F k → ¬ G k) : Row w' F e sz v n xs :=
  h.kept (fun k hk => s.block k (h.own.lt k hk).2 (hd k (h.foot k hk))) h.foot
theorem Row.lt {w : World} {F : Nat → Prop} {e : TypeId} {sz : Nat} {v : Value} {n : Nat} {xs : List Value} (h : Row w F e sz v n xs) : ∀ k, v.ownBlock = some k → k < w.heap.size := fun k hk => (h.own.lt k hk).2
/-- A row that has an element. -/
theorem Row.form {w : World} {F : Nat → Prop} {e : TypeId} {sz : Nat} {v : Value} {n : Nat} {xs : List Value} (h : Row w F e sz v n xs) (hn : 0 < n) :
    ∃ g cap cur, v = .slice (some ⟨g, 0, none⟩) n cap ∧ F g ∧ g < w.heap.size ∧ Blk w g e cur ∧ n ≤ cap ∧ cap ≤ maxLen ∧ cur.size = cap * sz ∧ cur.toList.take (n * sz) = xs := by
  rcases h.own.2 with ⟨_, h0⟩ | ⟨g, cap, cur, rfl, _, h2, h3, h4, h5, h6⟩
  · omega
  · exact ⟨g, cap, cur, rfl, h.foot g rfl, (h.own.lt g rfl).2, h2, h3, h4, h5, h6⟩
theorem Row.slc {w : World} {F : Nat → Prop} {e : TypeId} {sz : Nat} {v : Value} {n : Nat} {xs : List Value} (h : Row w F e sz v n xs) :
    ∃ A c, v = .slice A n c ∧ Slc w w.heap.size sz A n c xs := by
  obtain ⟨A, c, hv, hs, _⟩ := own_slc h.own
  exact ⟨A, c, hv, hs⟩
/-- One element of a row is written anew. -/
theorem Row.put {w : World} {F : Nat → Prop} {e : TypeId} {sz : Nat} {g n cap : Nat} {xs : List Value} (h : Row w F e sz (.slice (some ⟨g, 0, none⟩) n cap) n xs) {i : Nat} (hi : i < n) {ys : List Value} (hy : ys.length = sz)
    {cur : Array Value} (hB : Blk w g e cur) :
    Row (w.setRow g (cur.toList.take (i * sz) ++ ys ++ cur.toList.drop (i * sz + ys.length)).toArray) F e sz (.slice (some ⟨g, 0, none⟩) n cap) n (xs.take (i * sz) ++ ys ++ xs.drop (i * sz + ys.length)) := by
  rcases h.own.2 with ⟨_, h0⟩ | ⟨g', cap', cur', hv, h1, h2, h3, h4, h5, h6⟩
  · omega
  · injection hv with e1 e2 e3
    injection e1 with e1
    injection e1 with e1 _ _
    subst e1 e3
    have hcc : cur' = cur := by
      unfold Blk at hB
      rw [hB] at h2
      injection h2 with h2
      injection h2 with h2
      exact h2.symm
    subst hcc
    have hle : i * sz + sz ≤ n * sz := by rw [← Nat.succ_mul]; exact Nat.mul_le_mul_right _ hi
    have hle2 : n * sz ≤ cap * sz := Nat.mul_le_mul_right _ h3
    have hcl : cur'.toList.length = cap * sz := by simpa using h5
    refine ⟨⟨?_, .inr ⟨g, cap, _, rfl, Nat.zero_le _, hB.row _, h3, h4, ?_, ?_⟩⟩, h.foot⟩
    · have := h.own.1
      simp only [List.length_append, List.length_take, List.length_drop]
      omega
    · simp only [List.size_toArray, List.length_append, List.length_take, List.length_drop]
      omega
    · subst h6
      apply List.ext_getElem?
      intro j
      simp only [List.getElem?_take, List.getElem?_append, List.length_append, List.length_take, List.getElem?_drop, hcl, hy]
      repeat' split
      all_goals first | rfl | omega | (congr 1; omega) | (rw [List.getElem?_eq_none (by omega)])

theorem Slc.drew {w : World} {B sz : Nat} {A : Option Addr} {n c : Nat} {xs : List Value} (h : Slc w B sz A n c xs) : Slc w.drew B sz A n c xs := h.keep fun _ _ => World.cell?_drew _ _
theorem Slc.lt {w : World} {B sz : Nat} {A : Option Addr} {n c : Nat} {xs : List Value} (h : Slc w B sz A n c xs) (hs : 0 < sz) : Slc w w.heap.size sz A n c xs :=
  ⟨h.len, h.le, h.cmax, fun hn => by
    obtain ⟨b, off, e, hb, hc⟩ := h.at_ hn
    have hpos : 0 < xs.length := by rw [h.len]; exact Nat.mul_pos hn hs
    have := hc 0 xs[0] (List.getElem?_eq_getElem hpos)
    exact ⟨b, off, e, World.block_lt_of_cell? w _ this, hc⟩⟩
/-- A slice that lies apart from what turns. -/
theorem Slc.apart {w w' : World} {F G : Nat → Prop} {B sz : Nat} {A : Option Addr} {n c : Nat} {xs : List Value} (h : Slc w B sz A n c xs) (s : Step w w' F G) (hsep : ∀ a, A = some a → ¬ F a.block) : Slc w' B sz A n c xs :=
  ⟨h.len, h.le, h.cmax, fun hn => by
    obtain ⟨b, off, e, hb, hc⟩ := h.at_ hn
    refine ⟨b, off, e, hb, fun j u hu => ?_⟩
    have h1 := hc j u hu
    rw [World.cell?_of_block (w := w) (a := ⟨b, off + j, none⟩) (s.block b (World.block_lt_of_cell? w _ h1) (hsep _ e))]
    exact h1⟩
end Go.Proofs.YtibndaianhlcaaaGreatDoor
