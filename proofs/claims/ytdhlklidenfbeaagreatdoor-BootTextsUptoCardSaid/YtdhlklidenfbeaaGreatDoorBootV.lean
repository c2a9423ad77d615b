/- A menu's text, line by line: plain. -/
import Derived.Test.YtdhlklidenfbeaaGreatDoorBootT
import Derived.Lib.SplitLaws
import Derived.Lib.AtoiTie
import Derived.Lib.IndexMore
import Derived.Lib.IndexLaws
namespace Go.Proofs.YtdhlklidenfbeaaGreatDoor
open Go.RowKit
set_option linter.unusedVariables false
set_option linter.unusedSimpArgs false

theorem ix_none (c : UInt8) : ∀ (l : Txt), c ∉ l → Lib.indexByte l c = -1
  | [], _ => rfl
  | b :: l, h => by
    unfold Lib.indexByte
    have hb : ¬ (b == c) = true := fun e => h (by rw [beq_iff_eq.1 e]; exact List.mem_cons_self)
    rw [if_neg hb, ix_none c l (fun e => h (List.mem_cons_of_mem _ e))]
    rfl
theorem ix_cut (c : UInt8) : ∀ (a b : Txt), c ∉ a → Lib.indexByte (a ++ c :: b) c = (a.length : Int)
  | [], b, _ => by simp [Lib.indexByte]
  | x :: a, b, h => by
    have hc : ¬ (x == c) = true := fun e => h (by rw [beq_iff_eq.1 e]; exact List.mem_cons_self)
    have ih := ix_cut c a b (fun e => h (List.mem_cons_of_mem _ e))
    rw [List.cons_append, Lib.indexByte, if_neg hc, ih]
    have : ¬ ((a.length : Int) == -1) = true := by rw [beq_iff_eq]; omega
    rw [if_neg this]
    simp
theorem index_c (s : Txt) (c : UInt8) : Lib.indexB ⟨s.toArray⟩ ⟨#[c]⟩ = Lib.indexByte s c := by
  show Lib.index s [c] = _
  rw [Lib.index_one]
/-- A text's lines. -/
def nlines (s : Txt) : List Txt := (Lib.splitB ⟨#[10]⟩ 0 (Lib.countB ⟨s.toArray⟩ ⟨#[10]⟩) ⟨s.toArray⟩).map (·.data.toList)
theorem bext (l : Txt) (a b : Nat) : (ByteArray.mk l.toArray).extract a b = ⟨((l.drop a).take (b - a)).toArray⟩ := by
  apply Go.WideShapes.bytes_inj
  simp [List.extract_eq_take_drop]
theorem nlines_one {a : Txt} (h : (10 : UInt8) ∉ a) : nlines a = [a] := by
  have hi : Lib.indexB ⟨a.toArray⟩ ⟨#[10]⟩ = -1 := by rw [index_c, ix_none 10 a h]
  unfold nlines
  rw [Lib.splitB_miss _ _ _ _ hi]
  rfl
theorem nlines_cons {a r : Txt} (h : (10 : UInt8) ∉ a) : nlines (a ++ 10 :: r) = a :: nlines r := by
  have hi : Lib.indexB ⟨(a ++ 10 :: r).toArray⟩ ⟨#[10]⟩ = (a.length : Int) := by rw [index_c, ix_cut 10 a r h]
  have e1 : (ByteArray.mk (a ++ 10 :: r).toArray).extract (a.length + (⟨#[10]⟩ : ByteArray).size) (ByteArray.mk (a ++ 10 :: r).toArray).size = ⟨r.toArray⟩ := by
    rw [show (ByteArray.mk (a ++ 10 :: r).toArray).size = (a ++ 10 :: r).length from rfl, show (⟨#[10]⟩ : ByteArray).size = 1 from rfl, bext]
    rw [show a ++ 10 :: r = (a ++ [10]) ++ r by simp, List.drop_left' (by simp), List.take_of_length_le (by simp; omega)]
  unfold nlines
  rw [Lib.countB_hit _ _ _ (by decide) hi, e1, Nat.add_comm 1, Lib.splitB_hit _ _ _ _ _ hi, e1, Nat.add_zero, bext, List.drop_zero, Nat.sub_zero, List.take_left' rfl]
  rfl
theorem nlines_length (s : Txt) : (nlines s).length = Lib.countB ⟨s.toArray⟩ ⟨#[10]⟩ + 1 := by
  unfold nlines
  rw [List.length_map, Lib.splitB_all _ (by decide) 0 _ _ rfl]
theorem nlines_cells (s : Txt) : ((Lib.splitB ⟨#[10]⟩ 0 (Lib.countB ⟨s.toArray⟩ ⟨#[10]⟩) ⟨s.toArray⟩).map Value.string).toArray = ((nlines s).map fun t => Value.string ⟨t.toArray⟩).toArray := by
  unfold nlines
  rw [List.map_map]
  rfl

/-- A line's first word, and what is behind it. -/
def wordL (s : Txt) : Txt := (Lib.cut s [32]).1
def restL (s : Txt) : Txt := (Lib.cut s [32]).2.1
theorem cut_no {s : Txt} (h : (32 : UInt8) ∉ s) : wordL s = s ∧ restL s = [] := by
  have hi : Lib.index s [32] = -1 := by rw [Lib.index_one, ix_none 32 s h]
  unfold wordL restL Lib.cut
  rw [hi]
  exact ⟨rfl, rfl⟩
theorem cut_at {a r : Txt} (h : (32 : UInt8) ∉ a) : wordL (a ++ 32 :: r) = a ∧ restL (a ++ 32 :: r) = r := by
  have hi : Lib.index (a ++ 32 :: r) [32] = (a.length : Int) := by rw [Lib.index_one, ix_cut 32 a r h]
  unfold wordL restL Lib.cut
  rw [hi, if_pos (by omega)]
  refine ⟨by simp, ?_⟩
  simp only [Int.toNat_natCast, List.length_cons, List.length_nil]
  rw [show a ++ 32 :: r = (a ++ [32]) ++ r by simp, List.drop_left' (by simp)]
def firstL (s : Txt) : Txt := wordL (restL s)
def pathL (s : Txt) : Txt := restL (restL s)

theorem dig_mem : ∀ (n : Nat) (c : UInt8), c ∈ Lib.decDigits n → 48 ≤ c.toNat ∧ c.toNat ≤ 57 := by
  intro n
  induction n using Nat.strongRecOn with
  | _ n ih =>
    intro c hc
    rw [Lib.decDigits] at hc
    have key : ∀ m, m < 10 → c = UInt8.ofNat (48 + m) → 48 ≤ c.toNat ∧ c.toNat ≤ 57 := fun m hm e => by
      rw [e, UInt8.toNat_ofNat_of_lt' (show 48 + m < 2 ^ 8 by omega)]
      omega
    by_cases h : n < 10
    · rw [dif_pos h, List.mem_singleton] at hc
      exact key n h hc
    · rw [dif_neg h, List.mem_append, List.mem_singleton] at hc
      rcases hc with hc | hc
      · exact ih (n / 10) (by omega) c hc
      · exact key (n % 10) (by omega) hc
theorem ito_no {x : Int} (hx : 0 ≤ x) {c : UInt8} (h : c.toNat < 48) : c ∉ Lib.itoa x := fun hm => by
  unfold Lib.itoa at hm
  rw [if_neg (by omega)] at hm
  have := (dig_mem _ c hm).1
  omega
theorem from_snoc : ∀ (l : List UInt8) (a n d : Nat) (b : UInt8), Lib.decFrom a l = some n → Lib.digitVal b = some d → Lib.decFrom a (l ++ [b]) = some (n * 10 + d)
  | [], a, n, d, b, h, hb => by
    simp only [Lib.decFrom, Option.some.injEq] at h
    subst h
    simp [Lib.decFrom, hb]
  | c :: l, a, n, d, b, h, hb => by
    rw [List.cons_append]
    unfold Lib.decFrom at h ⊢
    cases hc : Lib.digitVal c with
    | none => rw [hc] at h; cases h
    | some v =>
      rw [hc] at h
      exact from_snoc l _ n d b h hb
theorem dval (d : Nat) (h : d < 10) : Lib.digitVal (UInt8.ofNat (48 + d)) = some d := by
  have : ∀ d : Fin 10, Lib.digitVal (UInt8.ofNat (48 + d.val)) = some d.val := by decide
  exact this ⟨d, h⟩
theorem from_digits : ∀ n : Nat, Lib.decFrom 0 (Lib.decDigits n) = some n := by
  intro n
  induction n using Nat.strongRecOn with
  | _ n ih =>
    rw [Lib.decDigits]
    by_cases h : n < 10
    · rw [dif_pos h]
      unfold Lib.decFrom
      rw [dval n h]
      simp [Lib.decFrom]
    · rw [dif_neg h, from_snoc _ 0 (n / 10) (n % 10) _ (ih (n / 10) (by omega)) (dval _ (by omega))]
      congr 1
      omega
theorem digits_short : ∀ (k n : Nat), n < 10 ^ (k + 1) → (Lib.decDigits n).length ≤ k + 1
  | 0, n, h => by
    rw [Lib.decDigits, dif_pos (by omega)]
    exact Nat.le_refl _
  | k + 1, n, h => by
    rw [Lib.decDigits]
    split
    · simp
    · rw [List.length_append, List.length_singleton]
      have := digits_short k (n / 10) (by rw [Nat.pow_succ] at h; omega)
      omega
theorem atoi_back {x : Int} (h0 : 0 ≤ x) (h1 : x ≤ 999999) : Lib.atoiAll (Lib.itoa x) = .ok x := by
  obtain ⟨m, rfl⟩ : ∃ m : Nat, x = (m : Int) := ⟨x.toNat, by omega⟩
  have e : Lib.itoa (m : Int) = Lib.decDigits m := by
    unfold Lib.itoa
    rw [if_neg (by omega), Int.toNat_natCast]
  have hl := digits_short 5 m (by omega)
  have hd := dig_mem m
  have hv := from_digits m
  rw [e, Lib.atoiAll_short _ (by omega)]
  cases hq : Lib.decDigits m with
  | nil =>
    have h1 : 1 ≤ (Lib.decDigits m).length := by
      rw [Lib.decDigits]
      split <;> simp
    rw [hq] at h1
    simp at h1
  | cons b r =>
    rw [hq] at hd hv
    have hb := hd b List.mem_cons_self
    have n1 : ¬ (b == 45) = true := fun e => by rw [beq_iff_eq.1 e] at hb; simp at hb
    have n2 : ¬ (b == 43) = true := fun e => by rw [beq_iff_eq.1 e] at hb; simp at hb
    have e2 : Lib.decNat (b :: r) = some m := hv
    unfold Lib.atoi
    simp only
    rw [if_neg n1, if_neg n2, e2]
    rfl
theorem atoi_nil : ∀ v, Lib.atoiAll [] ≠ .ok v := by
  intro v h
  rw [Lib.atoiAll_short _ (by decide)] at h
  cases h

/-- In a store path no line ends. -/
theorem path_line {l : Txt} (h : pathB l = true) : (10 : UInt8) ∉ l := fun hm => by
  obtain ⟨k, hk⟩ := List.mem_iff_getElem?.1 hm
  unfold pathB at h
  rw [Bool.and_eq_true, Bool.and_eq_true, decide_eq_true_iff, headB_iff] at h
  obtain ⟨⟨⟨h1, h2, h3, h4⟩, h5⟩, h6⟩ := h
  have hlt : k < l.length := (List.getElem?_eq_some_iff.1 hk).1
  rcases Nat.lt_or_ge k 7 with h7 | h7
  · have : slash7[k]? = some 10 := by rw [← h1, List.getElem?_take, if_pos h7, hk]
    have h8 : ∀ j : Fin 7, slash7[(j : Nat)]? ≠ some 10 := by decide
    exact h8 ⟨k, h7⟩ this
  · rcases Nat.lt_or_ge k 23 with h8 | h8
    · unfold parsed at h3
      rw [if_pos (by rw [List.length_take, List.length_drop]; omega)] at h3
      have hj : k - 7 < ((l.drop 7).take 16).length := by rw [List.length_take, List.length_drop]; omega
      have := hexVal_val _ _ h3 (k - 7) hj
      have e : ((l.drop 7).take 16)[k - 7] = 10 := by
        have : ((l.drop 7).take 16)[k - 7]? = some 10 := by
          rw [List.getElem?_take, if_pos (by omega), List.getElem?_drop, show 7 + (k - 7) = k by omega, hk]
        rw [List.getElem?_eq_getElem hj] at this
        exact Option.some.inj this
      rw [e] at this
      exact absurd this (by decide)
    · rcases Nat.lt_or_ge k 24 with h9 | h9
      · obtain rfl : k = 23 := by omega
        rw [h4] at hk
        exact absurd hk (by decide)
      · have hm : (10 : UInt8) ∈ l.drop 24 := List.mem_iff_getElem?.2 ⟨k - 24, by rw [List.getElem?_drop, show 24 + (k - 24) = k by omega, hk]⟩
        exact absurd (List.all_eq_true.1 h6 _ hm) (by decide)

/-- What a menu that may be has. -/
structure RightM (m : Menu) : Prop where
  last : 0 ≤ m.last ∧ m.last ≤ 999999
  few : m.gens.length ≤ 16
  gens : ∀ g ∈ m.gens, 0 ≤ g.num ∧ g.num ≤ 999999 ∧ pathB g.path = true
  def_ : 0 ≤ m.def_ ∧ m.def_ ≤ 999999
  next : 0 ≤ m.next ∧ m.next ≤ 999999
  trial : 0 ≤ m.trial ∧ m.trial ≤ 999999
theorem right_menu {m : Menu} (h : menuB m = true) : RightM m := by
  unfold menuB at h
  simp only [Bool.and_eq_true] at h
  obtain ⟨⟨⟨⟨h0, h1⟩, h2⟩, h3⟩, h4⟩ := h
  unfold headM at h0
  rw [decide_eq_true_iff] at h0
  have hg : ∀ g ∈ m.gens, 0 ≤ g.num ∧ g.num ≤ 999999 ∧ pathB g.path = true := fun g hg => by
    obtain ⟨k, hk, rfl⟩ := List.mem_iff_getElem.1 hg
    have h5 : genB m k = true := List.all_eq_true.1 h1 k (List.mem_range.2 hk)
    have h6 : gensTo m k = true := by
      cases h7 : gensTo m k with
      | true => rfl
      | false => rw [gensTo_false h7 (show k ≤ m.gens.length by omega)] at h1; cases h1
    have h8 := gensTo_pos h6 (by omega)
    rw [genB_at m k hk] at h5
    simp only [Bool.and_eq_true, decide_eq_true_eq] at h5
    exact ⟨by omega, by omega, h5.1⟩
  have hr : ∀ n, refB m n = true → 0 ≤ n ∧ n ≤ 999999 := fun n hn => by
    unfold refB at hn
    rw [Bool.or_eq_true, decide_eq_true_iff, hasB_iff] at hn
    rcases hn with rfl | ⟨g, hg1, rfl⟩
    · omega
    · exact ⟨(hg g hg1).1, (hg g hg1).2.1⟩
  exact ⟨⟨h0.1, h0.2.1⟩, h0.2.2, hg, hr _ h2, hr _ h3, hr _ h4⟩
def genLine (g : Gen) : Txt := [103, 101, 110, 32] ++ Lib.itoa g.num ++ [32] ++ g.path
theorem genLine_line {g : Gen} (h0 : 0 ≤ g.num) (hp : pathB g.path = true) : (10 : UInt8) ∉ genLine g := by
  have h1 := path_line hp
  have h2 := ito_no h0 (c := 10) (by decide)
  simp [genLine, h1, h2]
theorem lines_gens : ∀ (l : List Gen), (∀ g ∈ l, 0 ≤ g.num ∧ pathB g.path = true) → nlines (l.flatMap genT ++ [101, 110, 100, 10]) = l.map genLine ++ [[101, 110, 100], []]
  | [], _ => by
    show nlines ([101, 110, 100] ++ 10 :: []) = _
    rw [nlines_cons (by decide), nlines_one (by simp)]
    rfl
  | g :: l, h => by
    have hg := h g List.mem_cons_self
    rw [List.flatMap_cons, show genT g ++ l.flatMap genT ++ [101, 110, 100, 10] = genLine g ++ 10 :: (l.flatMap genT ++ [101, 110, 100, 10]) by unfold genT genLine; simp, nlines_cons (genLine_line hg.1 hg.2), lines_gens l (fun x hx => h x (List.mem_cons_of_mem _ hx))]
    rfl
/-- The lines of a right menu's text. -/
def menuL (m : Menu) : List Txt := [109, 101, 110, 117] :: (lastW ++ Lib.itoa m.last) :: (defaultW ++ Lib.itoa m.def_) :: (nextW ++ Lib.itoa m.next) :: (trialW ++ Lib.itoa m.trial) :: (m.gens.map genLine ++ [[101, 110, 100], []])
theorem lines_menu {m : Menu} (h : menuB m = true) : nlines (textM m) = menuL m := by
  have R := right_menu h
  have key : ∀ (w : Txt) (x : Int), (10 : UInt8) ∉ w → 0 ≤ x → (10 : UInt8) ∉ w ++ Lib.itoa x := fun w x hw hx => by
    have := ito_no hx (c := 10) (by decide)
    simp [hw, this]
  have e : textM m = [109, 101, 110, 117] ++ 10 :: ((lastW ++ Lib.itoa m.last) ++ 10 :: ((defaultW ++ Lib.itoa m.def_) ++ 10 :: ((nextW ++ Lib.itoa m.next) ++ 10 :: ((trialW ++ Lib.itoa m.trial) ++ 10 :: (m.gens.flatMap genT ++ [101, 110, 100, 10]))))) := by
    unfold textM gensT headT lineT
    rw [if_pos h, List.take_length]
    simp
  rw [e, nlines_cons (by decide), nlines_cons (key _ _ (by decide) R.last.1), nlines_cons (key _ _ (by decide) R.def_.1), nlines_cons (key _ _ (by decide) R.next.1), nlines_cons (key _ _ (by decide) R.trial.1), lines_gens _ (fun g hg => ⟨(R.gens g hg).1, (R.gens g hg).2.2⟩)]
  rfl
theorem text_ne {m : Menu} (h : menuB m = true) : textM m ≠ [] := by
  unfold textM
  rw [if_pos h]
  simp
/-- What a reading has behind i lines. -/
structure Reads (μ : Menu) (i : Nat) (m : Menu) : Prop where
  last : m.last = if 1 < i then μ.last else 0
  def_ : m.def_ = if 2 < i then μ.def_ else 0
  next : m.next = if 3 < i then μ.next else 0
  trial : m.trial = if 4 < i then μ.trial else 0
  gens : m.gens = μ.gens.take (i - 5)
theorem Reads.start (μ : Menu) : Reads μ 0 zeroM := ⟨rfl, rfl, rfl, rfl, by simp [zeroM]⟩
theorem Reads.end_ {μ m : Menu} {i : Nat} (h : Reads μ i m) (hi : i = μ.gens.length + 7) : m = μ := by
  obtain ⟨a, b, c, d, l⟩ := m
  obtain ⟨h1, h2, h3, h4, h5⟩ := h
  rw [if_pos (by omega)] at h1 h2 h3 h4
  rw [List.take_of_length_le (by omega)] at h5
  simp only at h1 h2 h3 h4 h5
  rw [h1, h2, h3, h4, h5]
theorem menuL_length (m : Menu) : (menuL m).length = m.gens.length + 7 := by simp [menuL]
theorem word_num (w : Txt) (x : Int) (hw : (32 : UInt8) ∉ w) (h0 : 0 ≤ x) (h1 : x ≤ 999999) : firstL ((w ++ [32]) ++ Lib.itoa x) = Lib.itoa x ∧ Lib.atoiAll (firstL ((w ++ [32]) ++ Lib.itoa x)) = .ok x := by
  have e : firstL ((w ++ [32]) ++ Lib.itoa x) = Lib.itoa x := by
    unfold firstL
    rw [show (w ++ [32]) ++ Lib.itoa x = w ++ 32 :: Lib.itoa x by simp, (cut_at hw).2, (cut_no (ito_no h0 (by decide))).1]
  exact ⟨e, by rw [e]; exact atoi_back h0 h1⟩
/-- What each line of a right menu's text says. -/
theorem line_num {μ : Menu} (h : menuB μ = true) {i : Nat} {s : Txt} (hs : (menuL μ)[i]? = some s) (h1 : 1 ≤ i) (h4 : i ≤ 4) :
    Lib.atoiAll (firstL s) = .ok (if i = 1 then μ.last else if i = 2 then μ.def_ else if i = 3 then μ.next else μ.trial) := by
  have R := right_menu h
  have : i = 1 ∨ i = 2 ∨ i = 3 ∨ i = 4 := by omega
  rcases this with rfl | rfl | rfl | rfl <;> (injection hs with hs; subst hs)
  · exact (word_num [108, 97, 115, 116] μ.last (by decide) R.last.1 R.last.2).2
  · exact (word_num [100, 101, 102, 97, 117, 108, 116] μ.def_ (by decide) R.def_.1 R.def_.2).2
  · exact (word_num [110, 101, 120, 116] μ.next (by decide) R.next.1 R.next.2).2
  · exact (word_num [116, 114, 105, 97, 108] μ.trial (by decide) R.trial.1 R.trial.2).2
theorem line_gen {μ : Menu} (h : menuB μ = true) {i : Nat} {s : Txt} (hs : (menuL μ)[i]? = some s) (h5 : 5 ≤ i) (hi : i - 5 < μ.gens.length) :
    wordL s = [103, 101, 110] ∧ Lib.atoiAll (firstL s) = .ok (μ.gens[i - 5].num) ∧ pathL s = μ.gens[i - 5].path := by
  have R := right_menu h
  obtain ⟨j, rfl⟩ : ∃ j, i = j + 5 := ⟨i - 5, by omega⟩
  have hj : j < μ.gens.length := by omega
  have e : (menuL μ)[j + 5]? = some (genLine μ.gens[j]) := by
    show ((μ.gens.map genLine ++ [[101, 110, 100], []]))[j]? = _
    rw [List.getElem?_append_left (by simpa using hj)]
    simp [hj]
  rw [e] at hs
  injection hs with hs
  subst hs
  simp only [Nat.add_sub_cancel]
  obtain ⟨g0, g1, g2⟩ := R.gens _ (List.getElem_mem hj)
  generalize μ.gens[j] = g at *
  have e1 : genLine g = [103, 101, 110] ++ 32 :: (Lib.itoa g.num ++ 32 :: g.path) := by unfold genLine; simp
  have e2 := cut_at (a := [103, 101, 110]) (r := Lib.itoa g.num ++ 32 :: g.path) (by decide)
  have e3 := cut_at (a := Lib.itoa g.num) (r := g.path) (ito_no g0 (by decide))
  unfold firstL pathL
  rw [e1, e2.2]
  exact ⟨e2.1, by rw [e3.1]; exact atoi_back g0 g1, e3.2⟩
theorem line_other {μ : Menu} {i : Nat} {s : Txt} (hs : (menuL μ)[i]? = some s) (hi : i = 0 ∨ 5 ≤ i ∧ μ.gens.length ≤ i - 5) : wordL s ≠ [103, 101, 110] ∧ ∀ v, Lib.atoiAll (firstL s) ≠ .ok v := by
  have key : ∀ t : Txt, (32 : UInt8) ∉ t → t ≠ [103, 101, 110] → wordL t ≠ [103, 101, 110] ∧ ∀ v, Lib.atoiAll (firstL t) ≠ .ok v := fun t ht hg => by
    have h1 := cut_no ht
    refine ⟨by rw [h1.1]; exact hg, ?_⟩
    unfold firstL
    rw [h1.2, (cut_no (by simp)).1]
    exact atoi_nil
  rcases hi with rfl | ⟨h5, hi⟩
  · injection hs with hs
    subst hs
    exact key _ (by decide) (by decide)
  · obtain ⟨j, rfl⟩ : ∃ j, i = j + 5 := ⟨i - 5, by omega⟩
    have e : (menuL μ)[j + 5]? = ([[101, 110, 100], []] : List Txt)[j - μ.gens.length]? := by
      show ((μ.gens.map genLine ++ [[101, 110, 100], []]))[j]? = _
      rw [List.getElem?_append_right (by simp; omega)]
      simp
    rw [e] at hs
    have hj : j - μ.gens.length = 0 ∨ j - μ.gens.length = 1 := by
      have := (List.getElem?_eq_some_iff.1 hs).1
      simp at this
      omega
    rcases hj with hj | hj <;> rw [hj] at hs <;> (injection hs with hs; subst hs)
    · exact key _ (by decide) (by decide)
    · exact key _ (by decide) (by decide)
end Go.Proofs.YtdhlklidenfbeaaGreatDoor
