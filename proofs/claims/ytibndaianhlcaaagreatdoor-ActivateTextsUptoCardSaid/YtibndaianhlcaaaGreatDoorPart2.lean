/- Names, store paths, texts that rise, trees of entries: plain lists of bytes, with no program in sight. The walk of dirs.Name. -/
import Derived.Test.YtibndaianhlcaaaGreatDoorPart1
import Derived.Sort.Row
import Derived.Lib.SlicesCompact
namespace Go.Proofs.YtibndaianhlcaaaGreatDoor

/-- A byte that may stand in a name. -/
def letterN (n : Nat) : Bool := decide (97 ≤ n ∧ n ≤ 122 ∨ 65 ≤ n ∧ n ≤ 90 ∨ 48 ≤ n ∧ n ≤ 57 ∨ n = 46 ∨ n = 95 ∨ n = 45 ∨ n = 43)
def letterB (c : UInt8) : Bool := letterN c.toNat
/-- A name. -/
def nameB (l : List UInt8) : Bool := decide (l ≠ [] ∧ l.length ≤ 36 ∧ l ≠ [46] ∧ l ≠ [46, 46]) && l.all letterB
theorem nameB_x (c : UInt8) : nameB [120, c] = letterB c := by
  have h : letterB 120 = true := by decide
  simp [nameB, h]

def slash7 : List UInt8 := [47, 115, 116, 111, 114, 101, 47]
/-- The front of a store path and one byte more. -/
def headB (l : List UInt8) : Bool := decide (l.take 7 = slash7) && decide (25 ≤ l.length) && (parsed ((l.drop 7).take 16)).isSome && decide (l[23]? = some 45)
/-- A store path. -/
def pathB (l : List UInt8) : Bool := headB l && decide (l.length ≤ 43) && (l.drop 24).all letterB
def tailN (l : List UInt8) : Nat := min 19 ((l.drop 24).takeWhile letterB).length
/-- The store path at the front of a text, or nothing. -/
def refP (l : List UInt8) : List UInt8 := if headB l = true ∧ 0 < tailN l then l.take (24 + tailN l) else []
/-- The store paths in a text, place by place. -/
def refsTo (d : List UInt8) (k : Nat) : List (List UInt8) := ((List.range k).map fun i => refP (d.drop i)).filter fun r => decide (r ≠ [])
def refsOne (d : List UInt8) : List (List UInt8) := refsTo d d.length
def refsAll (ds : List (List UInt8)) : List (List UInt8) := ds.flatMap refsOne

theorem refsTo_succ (d : List UInt8) (k : Nat) : refsTo d (k + 1) = refsTo d k ++ (if refP (d.drop k) = [] then [] else [refP (d.drop k)]) := by
  unfold refsTo
  rw [List.range_succ, List.map_append, List.filter_append]
  congr 1
  by_cases h : refP (d.drop k) = [] <;> simp [h]

theorem tailN_le (l : List UInt8) : 24 + tailN l ≤ max 24 l.length := by
  unfold tailN
  have : ((l.drop 24).takeWhile letterB).length ≤ (l.drop 24).length := (List.takeWhile_sublist _).length_le
  rw [List.length_drop] at this
  omega

theorem takeWhile_all {α : Type} (p : α → Bool) : ∀ (l : List α) (n : Nat), n ≤ (l.takeWhile p).length → (l.take n).all p = true
  | [], n, _ => by simp
  | x :: l, 0, _ => by simp
  | x :: l, n + 1, h => by
    by_cases hx : p x = true
    · rw [List.takeWhile_cons_of_pos hx] at h
      simp only [List.take_succ_cons, List.all_cons, hx, Bool.true_and]
      exact takeWhile_all p l n (by simpa using h)
    · rw [List.takeWhile_cons_of_neg hx] at h
      simp at h

theorem all_takeWhile {α : Type} (p : α → Bool) : ∀ (l : List α) (n : Nat), n ≤ l.length → (l.take n).all p = true → n ≤ (l.takeWhile p).length
  | l, 0, _, _ => Nat.zero_le _
  | [], n + 1, h, _ => by simp at h
  | x :: l, n + 1, h, ha => by
    simp only [List.take_succ_cons, List.all_cons, Bool.and_eq_true] at ha
    rw [List.takeWhile_cons_of_pos ha.1]
    have := all_takeWhile p l n (by simpa using h) ha.2
    simpa using this

theorem headB_iff (l : List UInt8) : headB l = true ↔ l.take 7 = slash7 ∧ 25 ≤ l.length ∧ (parsed ((l.drop 7).take 16)).isSome = true ∧ l[23]? = some 45 := by
  simp [headB, Bool.and_eq_true, and_assoc]

/-- The front of a text has the same head, if it is long enough. -/
theorem headB_take (l : List UInt8) (n : Nat) (h1 : 25 ≤ n) (h2 : n ≤ l.length) : headB (l.take n) = headB l := by
  rw [Bool.eq_iff_iff, headB_iff, headB_iff]
  rw [List.take_take, show min 7 n = 7 by omega, List.length_take, show min n l.length = n by omega, List.drop_take, List.take_take, show min 16 (n - 7) = 16 by omega,
    List.getElem?_take, if_pos (by omega)]
  constructor
  · rintro ⟨a, b, c, d⟩; exact ⟨a, by omega, c, d⟩
  · rintro ⟨a, b, c, d⟩; exact ⟨a, by omega, c, d⟩

/-- The front of n bytes is a store path: just where head and tail let it be. -/
theorem pathB_take (l : List UInt8) (n : Nat) (h1 : 25 ≤ n) (h2 : n ≤ l.length) : pathB (l.take n) = true ↔ headB l = true ∧ n ≤ 24 + tailN l := by
  unfold pathB
  rw [headB_take l n h1 h2, Bool.and_eq_true, Bool.and_eq_true, decide_eq_true_iff, List.length_take, show min n l.length = n by omega, List.drop_take]
  unfold tailN
  constructor
  · rintro ⟨⟨a, b⟩, c⟩
    have := all_takeWhile letterB (l.drop 24) (n - 24) (by rw [List.length_drop]; omega) c
    exact ⟨a, by omega⟩
  · rintro ⟨a, b⟩
    exact ⟨⟨a, by omega⟩, takeWhile_all letterB _ _ (by omega)⟩

theorem refP_len (l : List UInt8) (h : refP l ≠ []) : headB l = true ∧ 0 < tailN l ∧ refP l = l.take (24 + tailN l) ∧ (refP l).length = 24 + tailN l := by
  unfold refP at h ⊢
  by_cases hc : headB l = true ∧ 0 < tailN l
  · rw [if_pos hc]
    refine ⟨hc.1, hc.2, rfl, ?_⟩
    rw [List.length_take]
    have := tailN_le l
    have := ((headB_iff l).1 hc.1).2.1
    omega
  · rw [if_neg hc] at h; exact absurd rfl h

/-- What ref tells is a store path. -/
theorem refP_path (l : List UInt8) (h : refP l ≠ []) : pathB (refP l) = true := by
  obtain ⟨h1, h2, h3, h4⟩ := refP_len l h
  rw [h3]
  have := tailN_le l
  have := ((headB_iff l).1 h1).2.1
  exact (pathB_take l _ (by omega) (by omega)).2 ⟨h1, Nat.le_refl _⟩

theorem pathB_len {l : List UInt8} (h : pathB l = true) : 25 ≤ l.length ∧ l.length ≤ 43 := by
  unfold pathB at h
  rw [Bool.and_eq_true, Bool.and_eq_true, decide_eq_true_iff] at h
  exact ⟨((headB_iff l).1 h.1.1).2.1, h.1.2⟩

/-- A store path alone is told whole. -/
theorem refP_self (l : List UInt8) (h : pathB l = true) : refP l = l := by
  have hl := pathB_len h
  have h2 := (pathB_take l l.length hl.1 (Nat.le_refl _)).1 (by rw [List.take_length]; exact h)
  unfold refP
  rw [if_pos ⟨h2.1, by omega⟩, List.take_of_length_le h2.2]

/-- A text that tells itself is a store path. -/
theorem path_of_refP (l : List UInt8) (h : refP l = l) (hne : l ≠ []) : pathB l = true := by
  have := refP_path l (by rw [h]; exact hne)
  rwa [h] at this
theorem refP_pre (l : List UInt8) : refP l <+: l := by
  unfold refP
  split
  · exact List.take_prefix _ _
  · exact List.nil_prefix

theorem hexVal_val : ∀ (l : List UInt8) (s : Nat), (hexVal s l).isSome = true → ∀ (i : Nat) (h : i < l.length), (val l[i]).isSome = true
  | [], _, _, i, h => by simp at h
  | c :: l, s, hs, i, h => by
    rw [hexVal] at hs
    cases hv : val c with
    | none => rw [hv] at hs; cases hs
    | some d =>
      rw [hv] at hs
      cases i with
      | zero => simp [hv]
      | succ i => exact hexVal_val l _ hs i (by simpa using h)

/-- In a store path a slash stands at the first place and the seventh alone. -/
theorem path_slash (l : List UInt8) (h : pathB l = true) (k : Nat) (hk : l[k]? = some 47) : k = 0 ∨ k = 6 := by
  unfold pathB at h
  rw [Bool.and_eq_true, Bool.and_eq_true, decide_eq_true_iff, headB_iff] at h
  obtain ⟨⟨⟨h1, h2, h3, h4⟩, h5⟩, h6⟩ := h
  have hlt : k < l.length := (List.getElem?_eq_some_iff.1 hk).1
  rcases Nat.lt_or_ge k 7 with h7 | h7
  · have : slash7[k]? = some 47 := by rw [← h1, List.getElem?_take, if_pos h7, hk]
    have : ∀ j : Fin 7, slash7[(j : Nat)]? = some 47 → (j : Nat) = 0 ∨ (j : Nat) = 6 := by decide
    exact this ⟨k, h7⟩ (by assumption)
  · rcases Nat.lt_or_ge k 23 with h8 | h8
    · unfold parsed at h3
      rw [if_pos (by rw [List.length_take, List.length_drop]; omega)] at h3
      have hj : k - 7 < ((l.drop 7).take 16).length := by rw [List.length_take, List.length_drop]; omega
      have := hexVal_val _ _ h3 (k - 7) hj
      have e : ((l.drop 7).take 16)[k - 7] = 47 := by
        have : ((l.drop 7).take 16)[k - 7]? = some 47 := by
          rw [List.getElem?_take, if_pos (by omega), List.getElem?_drop, show 7 + (k - 7) = k by omega, hk]
        rw [List.getElem?_eq_getElem hj] at this
        exact Option.some.inj this
      rw [e] at this
      exact absurd this (by decide)
    · rcases Nat.lt_or_ge k 24 with h9 | h9
      · obtain rfl : k = 23 := by omega
        rw [h4] at hk
        exact absurd hk (by decide)
      · have hm : (47 : UInt8) ∈ l.drop 24 := List.mem_iff_getElem?.2 ⟨k - 24, by rw [List.getElem?_drop, show 24 + (k - 24) = k by omega, hk]⟩
        exact absurd (List.all_eq_true.1 h6 _ hm) (by decide)

theorem refP_first (l : List UInt8) (h : refP l ≠ []) : l.take 7 = slash7 := ((headB_iff l).1 (refP_len l h).1).1

/-- A store path's text tells itself and nothing else. -/
theorem refsOne_path (l : List UInt8) (h : pathB l = true) : refsOne l = [l] := by
  have hl := pathB_len h
  have key : ∀ k, 0 < k → k ≤ l.length → refsTo l k = [l] := by
    intro k
    induction k with
    | zero => intro h; omega
    | succ k ih =>
      intro _ hk
      rw [refsTo_succ]
      rcases Nat.eq_zero_or_pos k with rfl | h0
      · have : l ≠ [] := by intro e; rw [e] at hl; simp at hl
        rw [List.drop_zero, refP_self l h, if_neg this]
        rfl
      · rw [ih h0 (by omega)]
        have : refP (l.drop k) = [] := by
          apply Classical.byContradiction
          intro hne
          have h7 := refP_first _ hne
          have a0 : l[k]? = some 47 := by
            have : ((l.drop k).take 7)[0]? = slash7[0]? := by rw [h7]
            rwa [List.getElem?_take, if_pos (by omega), List.getElem?_drop, Nat.add_zero] at this
          have a6 : l[k + 6]? = some 47 := by
            have : ((l.drop k).take 7)[6]? = slash7[6]? := by rw [h7]
            rwa [List.getElem?_take, if_pos (by omega), List.getElem?_drop] at this
          have b0 := path_slash l h k a0
          have b6 := path_slash l h _ a6
          omega
        rw [if_pos this, List.append_nil]
  exact key _ (by omega) (Nat.le_refl _)

theorem mem_refsTo (d : List UInt8) (k : Nat) (r : List UInt8) : r ∈ refsTo d k ↔ ∃ i, i < k ∧ refP (d.drop i) = r ∧ r ≠ [] := by
  simp only [refsTo, List.mem_filter, List.mem_map, List.mem_range, decide_eq_true_eq]
  constructor
  · rintro ⟨⟨i, hi, rfl⟩, hne⟩; exact ⟨i, hi, rfl, hne⟩
  · rintro ⟨i, hi, rfl, hne⟩; exact ⟨⟨i, hi, rfl⟩, hne⟩

/-- What tells itself alone is a store path. -/
theorem path_of_refs (l : List UInt8) (h : l ∈ refsOne l) : pathB l = true := by
  obtain ⟨i, hi, hr, hne⟩ := (mem_refsTo _ _ _).1 h
  have hp : l.length ≤ (l.drop i).length := by rw [← congrArg List.length hr]; exact (refP_pre _).length_le
  rw [List.length_drop] at hp
  have h0 : i = 0 := by
    have : 0 < l.length := List.length_pos_iff.2 hne
    omega
  subst h0
  exact path_of_refP l hr hne
abbrev Txt := List UInt8
theorem txt_trans {a b c : Txt} (h : a < b) (h' : b < c) : a < c := List.lt_trans h h'
theorem txt_irrefl (a : Txt) : ¬ a < a := List.lt_irrefl a
theorem txt_le_iff {a b : Txt} : a ≤ b ↔ ¬ b < a := Iff.rfl
theorem txt_lt_of_le_ne {a b : Txt} (h : a ≤ b) (hne : a ≠ b) : a < b := Classical.byContradiction fun hn => hne (List.le_antisymm h hn)
theorem txt_le_trans {a b c : Txt} (h : a ≤ b) (h' : b ≤ c) : a ≤ c := List.le_trans h h'
theorem txt_le_total (a b : Txt) : a ≤ b ∨ b ≤ a := List.le_total a b
theorem txt_tri (a b : Txt) : a < b ∨ a = b ∨ b < a := by
  by_cases h : a < b
  · exact .inl h
  · by_cases h' : b < a
    · exact .inr (.inr h')
    · exact .inr (.inl (List.le_antisymm h' h))

/-- A list that rises. -/
def Rises (l : List Txt) : Prop := l.Pairwise (· < ·)

theorem rises_ext : ∀ {l m : List Txt}, Rises l → Rises m → (∀ x, x ∈ l ↔ x ∈ m) → l = m
  | [], [], _, _, _ => rfl
  | [], y :: m, _, _, h => absurd ((h y).2 List.mem_cons_self) (by simp)
  | x :: l, [], _, _, h => absurd ((h x).1 List.mem_cons_self) (by simp)
  | x :: l, y :: m, hl, hm, h => by
    unfold Rises at hl hm
    rw [List.pairwise_cons] at hl hm
    have hxy : x = y := by
      rcases List.mem_cons.1 ((h x).1 List.mem_cons_self) with e | e
      · exact e
      · rcases List.mem_cons.1 ((h y).2 List.mem_cons_self) with e' | e'
        · exact e'.symm
        · exact absurd (txt_trans (hm.1 x e) (hl.1 y e')) (txt_irrefl y)
    subst hxy
    congr 1
    refine rises_ext hl.2 hm.2 fun z => ?_
    have := h z
    simp only [List.mem_cons] at this
    constructor
    · intro hz
      rcases this.1 (.inr hz) with e | e
      · subst e; exact absurd (hl.1 z hz) (txt_irrefl z)
      · exact e
    · intro hz
      rcases this.2 (.inr hz) with e | e
      · subst e; exact absurd (hm.1 z hz) (txt_irrefl z)
      · exact e

/-- How many stand ahead of a text. -/
def aheadN (l : List Txt) (s : Txt) : Nat := (l.takeWhile fun x => decide (x < s)).length
/-- One text more, where it belongs. -/
def addL (l : List Txt) (s : Txt) : List Txt := if l[aheadN l s]? = some s then l else l.take (aheadN l s) ++ s :: l.drop (aheadN l s)

theorem aheadN_le (l : List Txt) (s : Txt) : aheadN l s ≤ l.length := (List.takeWhile_sublist _).length_le
theorem aheadN_lt (l : List Txt) (s : Txt) {i : Nat} (h : i < aheadN l s) (hi : i < l.length) : l[i] < s := by
  have h1 := takeWhile_all (fun x => decide (x < s)) l (aheadN l s) (Nat.le_refl _)
  have h2 : l[i] ∈ l.take (aheadN l s) := List.mem_iff_getElem?.2 ⟨i, by rw [List.getElem?_take, if_pos h, List.getElem?_eq_getElem hi]⟩
  exact of_decide_eq_true (List.all_eq_true.1 h1 _ h2)
theorem aheadN_ge (l : List Txt) (s : Txt) (hi : aheadN l s < l.length) : ¬ l[aheadN l s] < s := by
  induction l with
  | nil => simp at hi
  | cons x l ih =>
    by_cases hx : x < s
    · have e : aheadN (x :: l) s = aheadN l s + 1 := by unfold aheadN; rw [List.takeWhile_cons_of_pos (by simpa using hx)]; rfl
      simp only [e, List.getElem_cons_succ]
      exact ih (by rw [e] at hi; simpa using hi)
    · have e : aheadN (x :: l) s = 0 := by unfold aheadN; rw [List.takeWhile_cons_of_neg (by simpa using hx)]; rfl
      simp only [e, List.getElem_cons_zero]
      exact hx
/-- It is the first place that is not below. -/
theorem aheadN_eq (l : List Txt) (s : Txt) (k : Nat) (hk : k ≤ l.length) (h1 : ∀ i (hi : i < l.length), i < k → l[i] < s) (h2 : ∀ h : k < l.length, ¬ l[k] < s) : aheadN l s = k := by
  rcases Nat.lt_trichotomy (aheadN l s) k with h | h | h
  · exact absurd (h1 _ (by omega) h) (aheadN_ge l s (by omega))
  · exact h
  · exact absurd (aheadN_lt l s h (by have := aheadN_le l s; omega)) (h2 (by have := aheadN_le l s; omega))

theorem rises_get {l : List Txt} (h : Rises l) {i j : Nat} (hi : i < l.length) (hj : j < l.length) (hij : i < j) : l[i] < l[j] := List.pairwise_iff_getElem.1 h i j hi hj hij

theorem mem_addL (l : List Txt) (s x : Txt) : x ∈ addL l s ↔ x ∈ l ∨ x = s := by
  unfold addL
  split
  · rename_i h
    have : s ∈ l := List.mem_iff_getElem?.2 ⟨_, h⟩
    constructor
    · exact .inl
    · rintro (h | rfl)
      · exact h
      · exact this
  · have e : l = l.take (aheadN l s) ++ l.drop (aheadN l s) := (List.take_append_drop _ _).symm
    conv => rhs; rw [e]
    simp only [List.mem_append, List.mem_cons]
    constructor
    · rintro (h | h | h)
      · exact .inl (.inl h)
      · exact .inr h
      · exact .inl (.inr h)
    · rintro ((h | h) | h)
      · exact .inl h
      · exact .inr (.inr h)
      · exact .inr (.inl h)

theorem addL_rises {l : List Txt} (h : Rises l) (s : Txt) : Rises (addL l s) := by
  unfold addL
  split
  · exact h
  · rename_i hne
    have hA := aheadN_le l s
    unfold Rises
    rw [List.pairwise_append]
    refine ⟨List.Pairwise.sublist (List.take_sublist _ _) h, ?_, ?_⟩
    · rw [List.pairwise_cons]
      refine ⟨fun x hx => ?_, List.Pairwise.sublist (List.drop_sublist _ _) h⟩
      obtain ⟨i, hi⟩ := List.mem_iff_getElem?.1 hx
      rw [List.getElem?_drop] at hi
      obtain ⟨hlt, rfl⟩ := List.getElem?_eq_some_iff.1 hi
      have hal : aheadN l s < l.length := by omega
      have h0 : s < l[aheadN l s] := txt_lt_of_le_ne (aheadN_ge l s hal) (fun e => hne ((List.getElem?_eq_getElem hal).trans (congrArg some e.symm)))
      rcases Nat.eq_zero_or_pos i with rfl | hi0
      · exact h0
      · exact txt_trans h0 (rises_get h hal hlt (by omega))
    · intro x hx y hy
      obtain ⟨i, hi⟩ := List.mem_iff_getElem?.1 hx
      rw [List.getElem?_take] at hi
      split at hi
      · rename_i hia
        obtain ⟨hlt, rfl⟩ := List.getElem?_eq_some_iff.1 hi
        have hxs := aheadN_lt l s hia hlt
        rcases List.mem_cons.1 hy with rfl | hy
        · exact hxs
        · obtain ⟨j, hj⟩ := List.mem_iff_getElem?.1 hy
          rw [List.getElem?_drop] at hj
          obtain ⟨hlt', rfl⟩ := List.getElem?_eq_some_iff.1 hj
          exact rises_get h hlt hlt' (by omega)
      · cases hi

/-- Texts put in one by one. -/
def addAll (l : List Txt) (rs : List Txt) : List Txt := rs.foldl addL l
theorem addAll_rises : ∀ (rs : List Txt) {l : List Txt}, Rises l → Rises (addAll l rs)
  | [], _, h => h
  | r :: rs, _, h => addAll_rises rs (addL_rises h r)
theorem mem_addAll : ∀ (rs l : List Txt) (x : Txt), x ∈ addAll l rs ↔ x ∈ l ∨ x ∈ rs
  | [], l, x => by simp [addAll]
  | r :: rs, l, x => by
    have := mem_addAll rs (addL l r) x
    rw [mem_addL] at this
    simp only [addAll, List.foldl_cons, List.mem_cons] at this ⊢
    rw [this]
    constructor
    · rintro ((h | h) | h)
      · exact .inl h
      · exact .inr (.inl h)
      · exact .inr (.inr h)
    · rintro (h | h | h)
      · exact .inl (.inl h)
      · exact .inl (.inr h)
      · exact .inr h
theorem addAll_append (l rs ts : List Txt) : addAll l (rs ++ ts) = addAll (addAll l rs) ts := List.foldl_append ..

/-- A list that rises is one by its members. -/
theorem addAll_eq {l rs : List Txt} (hl : Rises l) (h : ∀ x, x ∈ l ↔ x ∈ rs) : l = addAll [] rs :=
  rises_ext hl (addAll_rises rs List.Pairwise.nil) fun x => by rw [mem_addAll, h x]; simp

theorem sort_rises (l : List Txt) : (l.mergeSort fun x y => decide (x ≤ y)).Pairwise (· ≤ ·) := by
  have := List.pairwise_mergeSort (le := fun x y : Txt => decide (x ≤ y)) (fun a b c h1 h2 => by simp only [decide_eq_true_eq] at *; exact txt_le_trans h1 h2)
    (fun a b => by simpa using txt_le_total a b) l
  exact this.imp fun h => by simpa using h

open Go.Lib in
theorem compact_step (d : Array Txt) (m : Nat) (hm : m < d.size) (hs : ∀ i j, i < j → j < d.size → d[i]! ≤ d[j]!) :
    (compactUpTo d (m + 1)).Pairwise (· < ·) ∧ (∀ x, x ∈ compactUpTo d (m + 1) ↔ ∃ i, i < m + 1 ∧ d[i]! = x) ∧ (∀ x, x ∈ compactUpTo d (m + 1) → x ≤ d[m]!) := by
  induction m with
  | zero =>
    have e : compactUpTo d (0 + 1) = [d[0]!] := by rw [compactUpTo_succ]; simp [compactUpTo, keeps]
    rw [e]
    refine ⟨by simp, fun x => ?_, fun x hx => ?_⟩
    · simp only [List.mem_singleton]
      constructor
      · rintro rfl; exact ⟨0, by omega, rfl⟩
      · rintro ⟨i, hi, rfl⟩; obtain rfl : i = 0 := (by omega)
        rfl
    · rw [List.mem_singleton.1 hx]; exact List.le_refl _
  | succ m ih =>
    obtain ⟨h1, h2, h3⟩ := ih (by omega)
    rw [compactUpTo_succ]
    have hle : d[m]! ≤ d[m + 1]! := hs m (m + 1) (by omega) hm
    by_cases hk : d[m + 1]! = d[m]!
    · have : keeps d (m + 1) = false := keeps_neg (by omega) hk
      rw [this]
      simp only [Bool.false_eq_true, if_false, List.append_nil]
      refine ⟨h1, fun x => ?_, fun x hx => by rw [hk]; exact h3 x hx⟩
      rw [h2 x]
      constructor
      · rintro ⟨i, hi, h⟩; exact ⟨i, by omega, h⟩
      · rintro ⟨i, hi, h⟩
        rcases Nat.lt_or_ge i (m + 1) with hlt | hge
        · exact ⟨i, hlt, h⟩
        · obtain rfl : i = m + 1 := by omega
          exact ⟨m, by omega, by rw [← hk]; exact h⟩
    · have : keeps d (m + 1) = true := keeps_pos hk
      rw [this, if_pos rfl]
      have hlt : d[m]! < d[m + 1]! := txt_lt_of_le_ne hle (fun e => hk e.symm)
      refine ⟨?_, fun x => ?_, fun x hx => ?_⟩
      · rw [List.pairwise_append]
        refine ⟨h1, by simp, fun x hx y hy => ?_⟩
        rw [List.mem_singleton.1 hy]
        rcases txt_tri x d[m]! with h | h | h
        · exact txt_trans h hlt
        · rw [h]; exact hlt
        · exact absurd h (h3 x hx)
      · rw [List.mem_append, h2 x, List.mem_singleton]
        constructor
        · rintro (⟨i, hi, h⟩ | h)
          · exact ⟨i, by omega, h⟩
          · exact ⟨m + 1, by omega, h.symm⟩
        · rintro ⟨i, hi, h⟩
          rcases Nat.lt_or_ge i (m + 1) with hlt' | hge
          · exact .inl ⟨i, hlt', h⟩
          · obtain rfl : i = m + 1 := by omega
            exact .inr h.symm
      · rw [List.mem_append, List.mem_singleton] at hx
        rcases hx with hx | rfl
        · exact txt_le_trans (h3 x hx) hle
        · exact List.le_refl _

open Go.Lib in
/-- What slices.Compact leaves of a sorted list rises and has the list's members. -/
theorem compact_sorted (l : List Txt) : ∃ m, compactUpTo (l.mergeSort fun x y => decide (x ≤ y)).toArray l.length = m ∧ m = addAll [] l := by
  refine ⟨_, rfl, ?_⟩
  have hlen : (l.mergeSort fun x y => decide (x ≤ y)).length = l.length := List.length_mergeSort l
  have hp : ∀ x, x ∈ (l.mergeSort fun x y => decide (x ≤ y)) ↔ x ∈ l := fun x => (List.mergeSort_perm l _).mem_iff
  have hr := sort_rises l
  generalize (l.mergeSort fun x y => decide (x ≤ y)) = s at *
  rcases Nat.eq_zero_or_pos l.length with h0 | h0
  · have : l = [] := List.eq_nil_of_length_eq_zero h0
    subst this
    simp [compactUpTo, addAll]
  · obtain ⟨m, hm⟩ : ∃ m, l.length = m + 1 := ⟨l.length - 1, by omega⟩
    have hsz : s.toArray.size = m + 1 := by simp [hlen, hm]
    have hget : ∀ i (h : i < s.length), s.toArray[i]! = s[i] := fun i h => by simp [h]
    obtain ⟨h1, h2, _⟩ := compact_step s.toArray m (by omega) (fun i j hij hj => by
      have hj' : j < s.length := by simpa using hj
      rw [hget i (by omega), hget j hj']
      exact List.pairwise_iff_getElem.1 hr i j (by omega) hj' hij)
    rw [hm]
    refine addAll_eq h1 fun x => ?_
    rw [h2 x, ← hp x, List.mem_iff_getElem]
    constructor
    · rintro ⟨i, hi, h⟩; exact ⟨i, by omega, by rw [← hget i (by omega)]; exact h⟩
    · rintro ⟨i, hi, h⟩; exact ⟨i, by omega, by rw [hget i hi]; exact h⟩

/-- A text cut at each slash. -/
def splitS : Txt → List Txt
  | [] => [[]]
  | x :: l => if x = 47 then [] :: splitS l else match splitS l with
    | [] => [[x]]
    | p :: q => (x :: p) :: q
theorem splitS_ne (l : Txt) : splitS l ≠ [] := by
  cases l with
  | nil => simp [splitS]
  | cons x l =>
    rw [splitS]
    split
    · simp
    · split <;> simp
theorem splitS_slash (l : Txt) : splitS (47 :: l) = [] :: splitS l := by rw [splitS, if_pos rfl]
theorem splitS_other (x : UInt8) (l : Txt) (h : x ≠ 47) : ∃ p q, splitS l = p :: q ∧ splitS (x :: l) = (x :: p) :: q := by
  rcases hs : splitS l with _ | ⟨p, q⟩
  · exact absurd hs (splitS_ne l)
  · exact ⟨p, q, rfl, by rw [splitS, if_neg h, hs]⟩
/-- A text without a slash is one name. -/
theorem splitS_none : ∀ (l : Txt), (47 : UInt8) ∉ l → splitS l = [l]
  | [], _ => rfl
  | x :: l, h => by
    obtain ⟨p, q, h1, h2⟩ := splitS_other x l (fun e => h (by rw [e]; exact List.mem_cons_self))
    rw [h2]
    rw [splitS_none l (fun e => h (List.mem_cons_of_mem _ e))] at h1
    injection h1 with a b
    subst a b
    rfl
/-- Up to the first slash, and behind it. -/
theorem splitS_cut : ∀ (a b : Txt), (47 : UInt8) ∉ a → splitS (a ++ 47 :: b) = a :: splitS b
  | [], b, _ => splitS_slash b
  | x :: a, b, h => by
    obtain ⟨p, q, h1, h2⟩ := splitS_other x (a ++ 47 :: b) (fun e => h (by rw [e]; exact List.mem_cons_self))
    rw [List.cons_append, h2]
    rw [splitS_cut a b (fun e => h (List.mem_cons_of_mem _ e))] at h1
    injection h1 with a b
    subst a b
    rfl
theorem splitS_length : ∀ l : Txt, (splitS l).length = l.count 47 + 1
  | [] => rfl
  | x :: l => by
    have ih := splitS_length l
    by_cases h : x = 47
    · subst h; rw [splitS_slash, List.length_cons, ih, List.count_cons_self]
    · obtain ⟨p, q, h1, h2⟩ := splitS_other x l h
      rw [h2, List.count_cons_of_ne h, ← ih, h1]
      rfl

/-- A path's names. -/
def pathNames (l : Txt) : Option (List Txt) :=
  match l with
  | [] => none
  | c :: r => if c ≠ 47 ∨ 200 < l.length then none else if r = [] then some [] else if (splitS r).all nameB = true ∧ (splitS r).length ≤ 16 then some (splitS r) else none

/-- An entry. -/
structure Ent where
  path : Txt
  kind : Int
  data : Txt

/-- An entry that may be. -/
def entryB (x : Ent) : Bool := decide (x.path.length ≤ 120 ∧ x.data.length ≤ 2048) && decide ((splitS x.path).length ≤ 4) && (splitS x.path).all nameB && (if x.kind = 3 then (pathNames x.data).isSome else decide (x.kind = 1))
/-- One entry may stand ahead of another. -/
def aheadB (a b : Txt) : Bool := decide (a < b) && !((a ++ [47]).isPrefixOf b)
/-- What an entry finds ahead of it lets it be. -/
def fitsB (l : List Ent) (i : Nat) (x : Ent) : Bool := entryB x && (l.take i).all fun y => aheadB y.path x.path
def rightTo (l : List Ent) (k : Nat) : Bool := (List.range k).all fun i => match l[i]? with
  | some x => fitsB l i x
  | none => true
/-- A list that is a tree. -/
def rightB (l : List Ent) : Bool := decide (l.length ≤ 24) && rightTo l l.length
theorem rightTo_succ (l : List Ent) (k : Nat) (h : k < l.length) : rightTo l (k + 1) = (rightTo l k && fitsB l k l[k]) := by
  unfold rightTo
  rw [List.range_succ, List.all_append]
  simp [List.getElem?_eq_getElem h]
theorem rightTo_zero (l : List Ent) : rightTo l 0 = true := rfl
theorem rightTo_false {l : List Ent} {k : Nat} (h : rightTo l k = false) : ∀ {n}, k ≤ n → rightTo l n = false := by
  intro n hn
  unfold rightTo at *
  rw [List.all_eq_false] at *
  obtain ⟨x, hx, hp⟩ := h
  exact ⟨x, by rw [List.mem_range] at *; omega, hp⟩
theorem rightB_false {l : List Ent} {k : Nat} (hk : k < l.length) (h : rightTo l k = true → fitsB l k l[k] = false) : rightB l = false := by
  unfold rightB
  have : rightTo l (k + 1) = false := by
    rw [rightTo_succ l k hk]
    cases hr : rightTo l k with
    | false => rfl
    | true => rw [h hr]; rfl
  rw [rightTo_false this (by omega), Bool.and_false]

/-- Ahead of a text that rises over the last one stand all. -/
theorem rightTo_lt {l : List Ent} {k : Nat} (h : rightTo l k = true) : ∀ i j (hi : i < l.length) (hj : j < l.length), i < j → j < k → l[i].path < l[j].path := by
  intro i j hi hj hij hjk
  unfold rightTo at h
  have h1 := List.all_eq_true.1 h j (List.mem_range.2 hjk)
  rw [List.getElem?_eq_getElem hj] at h1
  simp only [fitsB, Bool.and_eq_true] at h1
  have h2 := List.all_eq_true.1 h1.2 (l[i]'(by omega)) (List.mem_iff_getElem?.2 ⟨i, by rw [List.getElem?_take, if_pos hij]; exact List.getElem?_eq_getElem (show i < l.length by omega)⟩)
  simp only [aheadB, Bool.and_eq_true, decide_eq_true_eq] at h2
  exact h2.1


/-- The longest store path at the front of a text that is shorter than n. -/
def bestR (l : Txt) (n : Nat) : Txt := if headB l = true ∧ 0 < tailN l ∧ 25 < n then l.take (min (n - 1) (24 + tailN l)) else []
theorem bestR_zero (l : Txt) : bestR l 25 = [] := by unfold bestR; rw [if_neg (by omega)]
theorem bestR_succ (l : Txt) (n : Nat) (h1 : 25 ≤ n) (h2 : n ≤ l.length) : bestR l (n + 1) = if pathB (l.take n) = true then l.take n else bestR l n := by
  have hp := pathB_take l n h1 h2
  unfold bestR
  by_cases hh : headB l = true
  · by_cases ht : 0 < tailN l
    · by_cases hn : n ≤ 24 + tailN l
      · rw [if_pos ⟨hh, ht, by omega⟩, if_pos (hp.2 ⟨hh, hn⟩)]
        congr 1; omega
      · rw [if_pos ⟨hh, ht, by omega⟩, if_neg (fun h => hn (hp.1 h).2), if_pos ⟨hh, ht, by omega⟩]
        congr 1; omega
    · rw [if_neg (fun h => ht h.2.1), if_neg (fun h => by have := (hp.1 h).2; omega), if_neg (fun h => ht h.2.1)]
  · rw [if_neg (fun h => hh h.1), if_neg (fun h => hh (hp.1 h).1), if_neg (fun h => hh h.1)]
theorem bestR_end (l : Txt) (n : Nat) (h1 : 25 ≤ n) (h : n = 44 ∨ l.length < n) : bestR l n = refP l := by
  unfold bestR refP
  by_cases hh : headB l = true
  · have h25 := ((headB_iff l).1 hh).2.1
    have hle := tailN_le l
    have h19 : tailN l ≤ 19 := Nat.min_le_left _ _
    by_cases ht : 0 < tailN l
    · rw [if_pos ⟨hh, ht, by omega⟩, if_pos ⟨hh, ht⟩]
      rcases h with h | h
      · congr 1; omega
      · congr 1; omega
    · rw [if_neg (fun h => ht h.2.1), if_neg (fun h => ht h.2)]
  · rw [if_neg (fun h => hh h.1), if_neg (fun h => hh h.1)]
theorem refP_short (l : Txt) (h : l.length < 25) : refP l = [] := by
  unfold refP
  rw [if_neg]
  rintro ⟨hh, _⟩
  have := ((headB_iff l).1 hh).2.1
  omega
theorem refsTo_short (d : Txt) (k : Nat) (h : d.length < k + 25) : ∀ m, k ≤ m → refsTo d m = refsTo d k := by
  intro m hm
  induction m with
  | zero => obtain rfl : k = 0 := by omega
            rfl
  | succ m ih =>
    rcases Nat.lt_or_ge k (m + 1) with h1 | h1
    · rw [refsTo_succ, if_pos (refP_short _ (by rw [List.length_drop]; omega)), List.append_nil]
      exact ih (by omega)
    · obtain rfl : k = m + 1 := by omega
      rfl
theorem refsTo_none (d : Txt) (k : Nat) (h : refP (d.drop k) = []) : refsTo d (k + 1) = refsTo d k := by rw [refsTo_succ, if_pos h, List.append_nil]
theorem refsTo_some (d : Txt) (k : Nat) (h : refP (d.drop k) ≠ []) : refsTo d (k + 1) = refsTo d k ++ [refP (d.drop k)] := by rw [refsTo_succ, if_neg h]
theorem refsAll_take (ds : List Txt) (k : Nat) (h : k < ds.length) : refsAll (ds.take (k + 1)) = refsAll (ds.take k) ++ refsOne ds[k] := by
  unfold refsAll
  rw [List.take_succ_eq_append_getElem h, List.flatMap_append]
  simp
theorem addL_length (l : List Txt) (r : Txt) : (addL l r).length ≤ l.length + 1 := by
  unfold addL
  split
  · omega
  · simp only [List.length_append, List.length_cons, List.length_take, List.length_drop]
    omega
theorem addAll_length : ∀ (rs l : List Txt), (addAll l rs).length ≤ l.length + rs.length
  | [], _ => by simp [addAll]
  | r :: rs, l => by
    have h1 := addAll_length rs (addL l r)
    have h2 := addL_length l r
    have : addAll l (r :: rs) = addAll (addL l r) rs := rfl
    rw [this, List.length_cons]
    omega
theorem refsTo_length (d : Txt) : ∀ k, (refsTo d k).length ≤ k := fun k => by
  unfold refsTo
  exact Nat.le_trans (List.length_filter_le ..) (by simp)
theorem addAll_snoc (l rs : List Txt) (r : Txt) : addAll l (rs ++ [r]) = addL (addAll l rs) r := by rw [addAll_append]; rfl
end Go.Proofs.YtibndaianhlcaaaGreatDoor
namespace Go.Proofs.YtibndaianhlcaaaGreatDoor
open Go.RowKit
set_option linter.unusedVariables false
set_option linter.unusedSimpArgs false

theorem letter_cases (c : UInt8) (h : letterB c = false) : (c.toNat < 43 ∨ c.toNat = 44 ∨ c.toNat = 47 ∨ (57 < c.toNat ∧ c.toNat < 65) ∨ (90 < c.toNat ∧ c.toNat < 95) ∨ c.toNat = 96 ∨ 122 < c.toNat) := by
  unfold letterB letterN at h
  have := of_decide_eq_false h
  omega
theorem letter_cases2 (c : UInt8) (h : letterB c = true) : (97 ≤ c.toNat ∧ c.toNat ≤ 122) ∨ (65 ≤ c.toNat ∧ c.toNat ≤ 90) ∨ (48 ≤ c.toNat ∧ c.toNat ≤ 57) ∨ c.toNat = 46 ∨ c.toNat = 95 ∨ c.toNat = 45 ∨ c.toNat = 43 := by
  unfold letterB letterN at h
  exact of_decide_eq_true h
theorem nameB_not {l : List UInt8} (k : Nat) (hk : k < l.length) (h : letterB l[k] = false) : nameB l = false := by
  unfold nameB
  rw [show l.all letterB = false from ?_, Bool.and_false]
  rw [List.all_eq_false]
  exact ⟨l[k], List.getElem_mem hk, by rw [h]; decide⟩
theorem nameB_of {l : List UInt8} (h0 : l ≠ []) (h1 : l.length ≤ 36) (h2 : l ≠ [46]) (h3 : l ≠ [46, 46]) (h : (l.take l.length).all letterB = true) : nameB l = true := by
  unfold nameB
  rw [List.take_length] at h
  rw [h, decide_eq_true ⟨h0, h1, h2, h3⟩]
  rfl

set_option maxRecDepth 100000 in
set_option maxHeartbeats 1000000 in
theorem name_any (s : ByteArray) (w : World) (hs : s.size ≤ maxLen) :
    Calls Tryz.prog 39 #[.string s] w fun e w' => e = .returned (.bool (nameB s.data.toList)) ∧ Below w.heap.size w w' := by
  have hsz : s.data.toList.length = s.size := by rw [Array.length_toList]; rfl
  have ht : s.toList = s.data.toList := Go.ByteArray.toList_eq s
  obtain ⟨cap, w1, hcv, hb1, hz1, hS⟩ := convert_string Tryz.underlying9 Tryz.underlying33 Tryz.underlying5 w s hs
  generalize hl : s.data.toList = l at *
  clear hl
  have hN : ¬ (l ≠ [] ∧ l.length ≤ 36 ∧ l ≠ [46] ∧ l ≠ [46, 46]) → nameB l = false := fun h => by unfold nameB; rw [decide_eq_false h]; rfl
  by_cases hlong : 36 < s.size
  · have H := Lib.hid (hN (by omega))
    have h0 : l ≠ [] := by rintro rfl; simp at hsz; omega
    have h0' : l.isEmpty = false := by cases l with | nil => exact absurd rfl h0 | cons => rfl
    clear hN hsz hcv hS
    go_enter Tryz.func39, Tryz.ntmps39
    go_wp2
    go_ret
    exact ⟨by rw [H.out]; rfl, Below.refl _ _⟩
  by_cases h0 : l = []
  · have H := Lib.hid (hN (fun h => h.1 h0))
    subst h0
    clear hN hsz hcv hS
    go_enter Tryz.func39, Tryz.ntmps39
    go_wp2
    go_ret
    exact ⟨by rw [H.out]; rfl, Below.refl _ _⟩
  by_cases h1 : l = [46]
  · have H := Lib.hid (hN (fun h => h.2.2.1 h1))
    subst h1
    have hle : s.size = 1 := by simpa using hsz.symm
    clear hN hsz hcv hS
    go_enter Tryz.func39, Tryz.ntmps39
    go_wp2
    go_ret
    exact ⟨by rw [H.out]; rfl, Below.refl _ _⟩
  by_cases h2 : l = [46, 46]
  · have H := Lib.hid (hN (fun h => h.2.2.2 h2))
    subst h2
    have hle : s.size = 2 := by simpa using hsz.symm
    clear hN hsz hcv hS
    go_enter Tryz.func39, Tryz.ntmps39
    go_wp2
    go_ret
    exact ⟨by rw [H.out]; rfl, Below.refl _ _⟩
  have h0' : l.isEmpty = false := by cases l with | nil => exact absurd rfl h0 | cons => rfl
  have h1' : (l == [46]) = false := by simpa using h1
  have h2' : (l == [46, 46]) = false := by simpa using h2
  have hle : s.size ≤ 36 := by omega
  have hYES := Lib.hid (fun h => nameB_of (l := l) h0 (by omega) h1 h2 h)
  have hNO := Lib.hid (fun k hk h => nameB_not (l := l) k hk h)
  have HZ := Lib.hid hsz
  have HZ1 := Lib.hid hz1
  clear hN hsz hz1 hlong
  go_enter Tryz.func39, Tryz.ntmps39
  go_wp2
  go_loop [24] (fun i => ∃ k : Nat, k ≤ s.size ∧ i = .int .i64 (k : Int) ∧ (l.take k).all letterB = true) (fun i => s.size - (intOf i).toNat)
  case atStart => exact ⟨0, by omega, rfl, rfl⟩
  case round =>
    obtain ⟨k, hk, rfl, hv⟩ := hrel
    have HV := Lib.hid hv
    clear hv
    by_cases hlt : k < s.size
    · obtain ⟨b, off, e, hb, hlk, hc⟩ := hS.byte hlt
      obtain ⟨rfl, rfl, _⟩ : b = w.heap.size ∧ off = 0 ∧ True := by injection e with e; injection e with e1 e2; exact ⟨e1.symm, e2.symm, trivial⟩
      rw [Nat.zero_add] at hc
      have HT := Lib.hid (show (l.take (k + 1)).all letterB = letterB l[k] by rw [List.take_succ_eq_append_getElem hlk, List.all_append, HV.out]; simp)
      have HK := Lib.hid (fun h => hNO.out k hlk h)
      generalize l[k] = c at *
      have hc2 : (c.toNat : Int) < 256 := by have := u8_lt c; omega
      clear e
      cases hlet : letterB c with
      | true =>
        have H3 := Lib.hid (HT.out.trans hlet)
        rcases letter_cases2 c hlet with ⟨h3, h4⟩ | ⟨h3, h4⟩ | ⟨h3, h4⟩ | h3 | h3 | h3 | h3
        all_goals
          clear hlet
          go_wp2
          exact ⟨⟨k + 1, by omega, by go_num, H3.out⟩, by simp [intOf]; omega⟩
      | false =>
        have H3 := Lib.hid (HK.out hlet)
        have n1 : ((c.toNat : Int) != 46) = true := by have := letter_cases c hlet; simp; omega
        have n2 : ((c.toNat : Int) != 95) = true := by have := letter_cases c hlet; simp; omega
        have n3 : ((c.toNat : Int) != 45) = true := by have := letter_cases c hlet; simp; omega
        have n4 : ((c.toNat : Int) != 43) = true := by have := letter_cases c hlet; simp; omega
        rcases letter_cases c hlet with h3 | h3 | h3 | ⟨h3, h4⟩ | ⟨h3, h4⟩ | h3 | h3
        all_goals
          clear hlet
          go_wp2
          all_goals first
            | (go_ret
               exact ⟨by rw [H3.out]; rfl, hb1⟩)
            | (rename_i hx
               simp [n1, n2, n3, n4] at hx <;> (exfalso; omega))
    · have HY := Lib.hid (hYES.out (by rw [show l.length = k by have := HZ.out; omega]; exact HV.out))
      go_wp2
      go_ret
      exact ⟨by rw [HY.out]; rfl, hb1⟩
end Go.Proofs.YtibndaianhlcaaaGreatDoor
