/- Menus of generations: plain, with no program in sight. -/
import Derived.Test.YtdhlklidenfbeaaGreatDoorTreeP
namespace Go.Proofs.YtdhlklidenfbeaaGreatDoor

/-- A generation: its number and its path. -/
structure Gen where
  num : Int
  path : Txt
/-- A menu. -/
structure Menu where
  last : Int
  def_ : Int
  next : Int
  trial : Int
  gens : List Gen

def zeroM : Menu := ⟨0, 0, 0, 0, []⟩

/-- Is there a generation of a number? -/
def hasB (l : List Gen) (n : Int) : Bool := l.any fun g => decide (g.num = n)
/-- The number ahead of a place. -/
def prevN (l : List Gen) (k : Nat) : Int := match k with
  | 0 => 0
  | k + 1 => match l[k]? with
    | some g => g.num
    | none => 0
/-- May the generation at a place be? -/
def genB (m : Menu) (k : Nat) : Bool := match m.gens[k]? with
  | some g => pathB g.path && decide (prevN m.gens k < g.num ∧ g.num ≤ m.last)
  | none => false
def gensTo (m : Menu) (k : Nat) : Bool := (List.range k).all (genB m)
def refB (m : Menu) (n : Int) : Bool := decide (n = 0) || hasB m.gens n
def headM (m : Menu) : Bool := decide (0 ≤ m.last ∧ m.last ≤ 999999 ∧ m.gens.length ≤ 16)
/-- May a menu be? -/
def menuB (m : Menu) : Bool := headM m && gensTo m m.gens.length && refB m m.def_ && refB m m.next && refB m m.trial

theorem gensTo_zero (m : Menu) : gensTo m 0 = true := rfl
theorem gensTo_succ (m : Menu) (k : Nat) : gensTo m (k + 1) = (gensTo m k && genB m k) := by
  simp [gensTo, List.range_succ, List.all_append]
theorem gensTo_false {m : Menu} {k : Nat} (h : gensTo m k = false) : ∀ {n}, k ≤ n → gensTo m n = false := by
  intro n hn
  induction n with
  | zero => obtain rfl : k = 0 := by omega
            exact h
  | succ n ih =>
    rcases Nat.lt_or_ge k (n + 1) with h1 | h1
    · rw [gensTo_succ, ih (by omega)]; rfl
    · obtain rfl : k = n + 1 := by omega
      exact h
theorem prevN_succ (l : List Gen) (k : Nat) (h : k < l.length) : prevN l (k + 1) = l[k].num := by
  simp [prevN, List.getElem?_eq_getElem h]
theorem genB_at (m : Menu) (k : Nat) (h : k < m.gens.length) : genB m k = (pathB m.gens[k].path && decide (prevN m.gens k < m.gens[k].num ∧ m.gens[k].num ≤ m.last)) := by
  simp [genB, List.getElem?_eq_getElem h]
theorem gensTo_pos {m : Menu} : ∀ {k : Nat}, gensTo m k = true → k ≤ m.gens.length → 0 ≤ prevN m.gens k
  | 0, _, _ => Int.le_refl _
  | k + 1, h, hk => by
    rw [gensTo_succ, Bool.and_eq_true] at h
    have h1 := gensTo_pos h.1 (by omega)
    rw [genB_at m k (by omega)] at h
    have h2 := h.2
    simp only [Bool.and_eq_true, decide_eq_true_eq] at h2
    rw [prevN_succ _ _ (by omega)]
    omega
theorem menuB_false_head {m : Menu} (h : ¬ (0 ≤ m.last ∧ m.last ≤ 999999 ∧ m.gens.length ≤ 16)) : menuB m = false := by
  simp [menuB, headM, h]
theorem menuB_false_gen {m : Menu} {k : Nat} (hk : k < m.gens.length) (h : gensTo m k = true → genB m k = false) : menuB m = false := by
  have : gensTo m (k + 1) = false := by
    rw [gensTo_succ]
    cases hg : gensTo m k with
    | false => rfl
    | true => rw [h hg]; rfl
  simp [menuB, gensTo_false this (show k + 1 ≤ m.gens.length by omega)]
theorem menuB_of {m : Menu} (h0 : 0 ≤ m.last ∧ m.last ≤ 999999 ∧ m.gens.length ≤ 16) (h1 : gensTo m m.gens.length = true) :
    menuB m = (refB m m.def_ && refB m m.next && refB m m.trial) := by
  simp [menuB, headM, h0, h1]
theorem hasB_iff {l : List Gen} {n : Int} : hasB l n = true ↔ ∃ g ∈ l, g.num = n := by
  simp [hasB]

/-- Where the generation of a number stands. -/
def atG (l : List Gen) (n : Int) : Nat := (l.takeWhile fun g => decide (g.num ≠ n)).length

/-- What a list of generations is. -/
structure GensOk (last : Int) (l : List Gen) : Prop where
  path : ∀ g ∈ l, pathB g.path = true
  low : ∀ g ∈ l, 1 ≤ g.num ∧ g.num ≤ last
  rise : l.Pairwise fun a b => a.num < b.num

theorem gensTo_iff (m : Menu) : gensTo m m.gens.length = true ↔ GensOk m.last m.gens := by
  constructor
  · intro h
    have hall : ∀ k (hk : k < m.gens.length), pathB m.gens[k].path = true ∧ prevN m.gens k < m.gens[k].num ∧ m.gens[k].num ≤ m.last := by
      intro k hk
      have h1 := List.all_eq_true.1 h k (List.mem_range.2 hk)
      rw [genB_at m k hk] at h1
      simpa using h1
    have hpos : ∀ k (hk : k < m.gens.length), 1 ≤ m.gens[k].num := by
      intro k
      induction k with
      | zero => intro hk; have := (hall 0 hk).2.1; simp only [prevN] at this; omega
      | succ k ih =>
        intro hk
        have h1 := (hall (k + 1) hk).2.1
        rw [prevN_succ _ _ (by omega)] at h1
        have := ih (by omega)
        omega
    have hr : ∀ d i (hi : i + d + 1 < m.gens.length), m.gens[i].num < m.gens[i + d + 1].num := by
      intro d
      induction d with
      | zero =>
        intro i hi
        have h1 := (hall (i + 1) hi).2.1
        rw [prevN_succ _ _ (by omega)] at h1
        exact h1
      | succ d ih =>
        intro i hi
        have h1 := (hall (i + (d + 1) + 1) hi).2.1
        rw [prevN_succ _ _ (by omega)] at h1
        have h2 := ih i (by omega)
        exact Int.lt_trans h2 h1
    refine ⟨fun g hg => ?_, fun g hg => ?_, ?_⟩
    · obtain ⟨k, hk, rfl⟩ := List.mem_iff_getElem.1 hg
      exact (hall k hk).1
    · obtain ⟨k, hk, rfl⟩ := List.mem_iff_getElem.1 hg
      exact ⟨hpos k hk, (hall k hk).2.2⟩
    · rw [List.pairwise_iff_getElem]
      intro i j hi hj hij
      obtain ⟨d, rfl⟩ : ∃ d, j = i + d + 1 := ⟨j - i - 1, by omega⟩
      exact hr d i hj
  · intro h
    refine List.all_eq_true.2 fun k hk => ?_
    have hk := List.mem_range.1 hk
    rw [genB_at m k hk]
    have hm := List.getElem_mem hk
    simp only [Bool.and_eq_true, decide_eq_true_eq]
    refine ⟨h.path _ hm, ?_, (h.low _ hm).2⟩
    cases k with
    | zero => have := (h.low _ hm).1; simp only [prevN]; omega
    | succ k =>
      rw [prevN_succ _ _ (by omega)]
      exact List.pairwise_iff_getElem.1 h.rise k (k + 1) (by omega) hk (by omega)

structure MenuOk (m : Menu) : Prop where
  head : 0 ≤ m.last ∧ m.last ≤ 999999 ∧ m.gens.length ≤ 16
  gens : GensOk m.last m.gens
  def_ : refB m m.def_ = true
  next : refB m m.next = true
  trial : refB m m.trial = true
theorem menuB_iff (m : Menu) : menuB m = true ↔ MenuOk m := by
  unfold menuB
  simp only [Bool.and_eq_true, headM, decide_eq_true_eq, gensTo_iff]
  exact ⟨fun ⟨⟨⟨⟨a, b⟩, c⟩, d⟩, e⟩ => ⟨a, b, c, d, e⟩, fun h => ⟨⟨⟨⟨h.head, h.gens⟩, h.def_⟩, h.next⟩, h.trial⟩⟩

/-- What comes of a deed: the error's number, the menu. -/
structure Got where
  err : Int
  menu : Menu
def refuse (e : Int) : Got := ⟨e, zeroM⟩

def addM (m : Menu) (p : Txt) : Got :=
  if menuB m = false then refuse 66
  else if pathB p = false then refuse 65
  else if m.gens.length = 16 ∨ m.last = 999999 then refuse 69
  else ⟨0, { m with last := m.last + 1, gens := m.gens ++ [⟨m.last + 1, p⟩] }⟩
def findE (m : Menu) (n : Int) : Int := if menuB m = false then 66 else if hasB m.gens n = false then 67 else 0
def dropG (l : List Gen) (n : Int) : List Gen := l.filter fun g => decide (g.num ≠ n)
def removeM (m : Menu) (n : Int) : Got :=
  if findE m n ≠ 0 then refuse (findE m n)
  else if n = m.def_ ∨ n = m.next ∨ n = m.trial then refuse 68
  else ⟨0, { m with gens := dropG m.gens n }⟩
def defaultM (m : Menu) (n : Int) : Got := if findE m n ≠ 0 then refuse (findE m n) else ⟨0, { m with def_ := n, next := 0, trial := 0 }⟩
def nextM (m : Menu) (n : Int) : Got := if findE m n ≠ 0 then refuse (findE m n) else ⟨0, { m with next := n }⟩
/-- What a boot loader leaves, takes, and whether it tries it. -/
def loadM (m : Menu) : Menu := if m.next ≠ 0 then { m with trial := m.next, next := 0 } else { m with trial := 0 }
def loadN (m : Menu) : Int := if m.next ≠ 0 then m.next else m.def_
def loadB (m : Menu) : Bool := decide (m.next ≠ 0)

/-- The greatest number below one. -/
def bestTo (l : List Gen) (n : Int) (k : Nat) : Option Int := (l.take k).foldl (fun r g => if g.num < n ∧ (∀ b, r = some b → b < g.num) then some g.num else r) none
theorem bestTo_succ (l : List Gen) (n : Int) (k : Nat) (h : k < l.length) : bestTo l n (k + 1) = if l[k].num < n ∧ (∀ b, bestTo l n k = some b → b < l[k].num) then some l[k].num else bestTo l n k := by
  unfold bestTo
  rw [List.take_succ_eq_append_getElem h, List.foldl_append]
  rfl

theorem findE_cases (m : Menu) (n : Int) : findE m n = 66 ∨ findE m n = 67 ∨ (findE m n = 0 ∧ menuB m = true ∧ hasB m.gens n = true) := by
  unfold findE
  cases menuB m
  · exact .inl rfl
  · cases hasB m.gens n
    · exact .inr (.inl rfl)
    · exact .inr (.inr ⟨rfl, rfl, rfl⟩)

theorem refB_zero (m : Menu) : refB m 0 = true := rfl
theorem refB_has {m : Menu} {n : Int} (h : hasB m.gens n = true) : refB m n = true := by simp [refB, h]
theorem zeroM_ok : menuB zeroM = true := by decide

theorem addM_ok {m : Menu} {p : Txt} (h : (addM m p).err = 0) : MenuOk m ∧ pathB p = true ∧ m.last < 999999 ∧ addM m p = ⟨0, { m with last := m.last + 1, gens := m.gens ++ [⟨m.last + 1, p⟩] }⟩ ∧ MenuOk (addM m p).menu := by
  unfold addM at h ⊢
  by_cases h1 : menuB m = false
  · rw [if_pos h1] at h; exact absurd h (by decide)
  by_cases h2 : pathB p = false
  · rw [if_neg h1, if_pos h2] at h; exact absurd h (by decide)
  by_cases h3 : m.gens.length = 16 ∨ m.last = 999999
  · rw [if_neg h1, if_neg h2, if_pos h3] at h; exact absurd h (by decide)
  rw [if_neg h1, if_neg h2, if_neg h3]
  have hm := (menuB_iff m).1 (by simpa using h1)
  have hp : pathB p = true := by simpa using h2
  have hh := hm.head
  refine ⟨hm, hp, by omega, rfl, ?_⟩
  have hkeep : ∀ n, refB m n = true → refB { m with last := m.last + 1, gens := m.gens ++ [⟨m.last + 1, p⟩] } n = true := by
    intro n hn
    unfold refB at hn ⊢
    simp only [Bool.or_eq_true, decide_eq_true_eq, hasB_iff] at hn ⊢
    rcases hn with hn | ⟨g, hg, hn⟩
    · exact .inl hn
    · exact .inr ⟨g, List.mem_append_left _ hg, hn⟩
  refine ⟨⟨by simp only; omega, by simp only; omega, by simp only [List.length_append, List.length_singleton]; omega⟩, ⟨?_, ?_, ?_⟩, hkeep _ hm.def_, hkeep _ hm.next, hkeep _ hm.trial⟩
  · intro g hg
    rcases List.mem_append.1 hg with hg | hg
    · exact hm.gens.path g hg
    · rw [List.mem_singleton.1 hg]; exact hp
  · intro g hg
    rcases List.mem_append.1 hg with hg | hg
    · have := hm.gens.low g hg; simp only; omega
    · rw [List.mem_singleton.1 hg]; simp only; omega
  · refine List.pairwise_append.2 ⟨hm.gens.rise, List.pairwise_singleton _ _, fun a ha b hb => ?_⟩
    rw [List.mem_singleton.1 hb]
    have := (hm.gens.low a ha).2
    simp only
    omega

theorem mem_dropG {l : List Gen} {n : Int} {g : Gen} : g ∈ dropG l n ↔ g ∈ l ∧ g.num ≠ n := by simp [dropG]
theorem removeM_ok {m : Menu} {n : Int} (h : (removeM m n).err = 0) : MenuOk m ∧ hasB m.gens n = true ∧ removeM m n = ⟨0, { m with gens := dropG m.gens n }⟩ ∧ MenuOk (removeM m n).menu := by
  unfold removeM at h ⊢
  rcases findE_cases m n with h1 | h1 | ⟨h1, h2, h3⟩
  · rw [if_pos (by rw [h1]; decide), h1] at h; exact absurd h (by decide)
  · rw [if_pos (by rw [h1]; decide), h1] at h; exact absurd h (by decide)
  rw [if_neg (by rw [h1]; decide)] at h ⊢
  by_cases h4 : n = m.def_ ∨ n = m.next ∨ n = m.trial
  · rw [if_pos h4] at h; exact absurd h (by decide)
  rw [if_neg h4]
  have hm := (menuB_iff m).1 h2
  refine ⟨hm, h3, rfl, ?_⟩
  have hkeep : ∀ k, k ≠ n → refB m k = true → refB { m with gens := dropG m.gens n } k = true := by
    intro k hk hn
    unfold refB at hn ⊢
    simp only [Bool.or_eq_true, decide_eq_true_eq, hasB_iff] at hn ⊢
    rcases hn with hn | ⟨g, hg, hn⟩
    · exact .inl hn
    · exact .inr ⟨g, mem_dropG.2 ⟨hg, by rw [hn]; exact hk⟩, hn⟩
  have hh := hm.head
  have hlen : (dropG m.gens n).length ≤ m.gens.length := List.length_filter_le ..
  refine ⟨⟨hh.1, hh.2.1, by simp only; omega⟩, ⟨fun g hg => hm.gens.path g (mem_dropG.1 hg).1, fun g hg => hm.gens.low g (mem_dropG.1 hg).1, hm.gens.rise.filter _⟩, ?_, ?_, ?_⟩
  · exact hkeep _ (fun e => h4 (.inl e.symm)) hm.def_
  · exact hkeep _ (fun e => h4 (.inr (.inl e.symm))) hm.next
  · exact hkeep _ (fun e => h4 (.inr (.inr e.symm))) hm.trial
theorem defaultM_ok {m : Menu} {n : Int} (h : (defaultM m n).err = 0) : MenuOk m ∧ hasB m.gens n = true ∧ defaultM m n = ⟨0, { m with def_ := n, next := 0, trial := 0 }⟩ ∧ MenuOk (defaultM m n).menu := by
  unfold defaultM at h ⊢
  rcases findE_cases m n with h1 | h1 | ⟨h1, h2, h3⟩
  · rw [if_pos (by rw [h1]; decide), h1] at h; exact absurd h (by decide)
  · rw [if_pos (by rw [h1]; decide), h1] at h; exact absurd h (by decide)
  rw [if_neg (by rw [h1]; decide)]
  have hm := (menuB_iff m).1 h2
  exact ⟨hm, h3, rfl, hm.head, hm.gens, refB_has h3, refB_zero _, refB_zero _⟩
theorem nextM_ok {m : Menu} {n : Int} (h : (nextM m n).err = 0) : MenuOk m ∧ hasB m.gens n = true ∧ nextM m n = ⟨0, { m with next := n }⟩ ∧ MenuOk (nextM m n).menu := by
  unfold nextM at h ⊢
  rcases findE_cases m n with h1 | h1 | ⟨h1, h2, h3⟩
  · rw [if_pos (by rw [h1]; decide), h1] at h; exact absurd h (by decide)
  · rw [if_pos (by rw [h1]; decide), h1] at h; exact absurd h (by decide)
  rw [if_neg (by rw [h1]; decide)]
  have hm := (menuB_iff m).1 h2
  exact ⟨hm, h3, rfl, hm.head, hm.gens, hm.def_, refB_has h3, hm.trial⟩
theorem loadM_ok {m : Menu} (h : MenuOk m) : MenuOk (loadM m) := by
  unfold loadM
  by_cases h1 : m.next ≠ 0
  · rw [if_pos h1]; exact ⟨h.head, h.gens, h.def_, refB_zero _, h.next⟩
  · rw [if_neg h1]; exact ⟨h.head, h.gens, h.def_, h.next, refB_zero _⟩
theorem loadM_last (m : Menu) : (loadM m).last = m.last ∧ (loadM m).gens = m.gens ∧ (loadM m).def_ = m.def_ ∧ (loadM m).next = 0 := by
  unfold loadM
  by_cases h1 : m.next ≠ 0
  · rw [if_pos h1]; exact ⟨rfl, rfl, rfl, rfl⟩
  · rw [if_neg h1]; exact ⟨rfl, rfl, rfl, Classical.not_not.1 h1⟩

/-- Deeds on a menu, as the laws do them: 0 Add, 1 Remove, 2 Default, 3 Next, any other Load. -/
structure MOp where
  kind : Int
  n : Int
def place : Txt := [47, 115, 116, 111, 114, 101, 47, 48, 49, 50, 51, 52, 53, 54, 55, 56, 57, 97, 98, 99, 100, 101, 102, 45, 120]
def letterOf (n : Int) : UInt8 := UInt8.ofNat (97 + (n % 16).toNat)
def opM (m : Menu) (o : MOp) : Got :=
  if o.kind = 0 then addM m (place ++ [letterOf o.n])
  else if o.kind = 1 then removeM m o.n
  else if o.kind = 2 then defaultM m o.n
  else if o.kind = 3 then nextM m o.n
  else ⟨0, loadM m⟩
/-- A refused deed gives the empty menu. -/
theorem opM_refused (m : Menu) (o : MOp) (h : (opM m o).err ≠ 0) : (opM m o).menu = zeroM := by
  revert h
  unfold opM addM removeM defaultM nextM
  repeat' split
  all_goals first | (intro _; rfl) | (intro h; exact absurd rfl h)
theorem opM_ok {m : Menu} {o : MOp} (hm : MenuOk m) (h : (opM m o).err = 0) : MenuOk (opM m o).menu ∧
    (o.kind = 0 → (opM m o).menu.last = m.last + 1 ∧ ∃ l p, (opM m o).menu.gens = l ++ [⟨m.last + 1, p⟩]) ∧ (o.kind ≠ 0 → (opM m o).menu.last = m.last) := by
  unfold opM at h ⊢
  by_cases h0 : o.kind = 0
  · rw [if_pos h0] at h ⊢
    obtain ⟨_, _, _, e, hk⟩ := addM_ok h
    refine ⟨hk, fun _ => ?_, fun hn => absurd h0 hn⟩
    rw [e]
    exact ⟨rfl, _, _, rfl⟩
  rw [if_neg h0] at h ⊢
  by_cases h1 : o.kind = 1
  · rw [if_pos h1] at h ⊢
    obtain ⟨_, _, e, hk⟩ := removeM_ok h
    exact ⟨hk, fun hn => absurd hn h0, fun _ => by rw [e]⟩
  rw [if_neg h1] at h ⊢
  by_cases h2 : o.kind = 2
  · rw [if_pos h2] at h ⊢
    obtain ⟨_, _, e, hk⟩ := defaultM_ok h
    exact ⟨hk, fun hn => absurd hn h0, fun _ => by rw [e]⟩
  rw [if_neg h2] at h ⊢
  by_cases h3 : o.kind = 3
  · rw [if_pos h3] at h ⊢
    obtain ⟨_, _, e, hk⟩ := nextM_ok h
    exact ⟨hk, fun hn => absurd hn h0, fun _ => by rw [e]⟩
  rw [if_neg h3] at h ⊢
  exact ⟨loadM_ok hm, fun hn => absurd hn h0, fun _ => (loadM_last m).1⟩
theorem loadM_zero {m : Menu} (h : m.next = 0) : loadM m = { m with trial := 0 } := by unfold loadM; rw [if_neg (by rw [h]; exact fun h => h rfl)]
/-- The trial of a menu's next one. -/
theorem trial_plain {m0 : Menu} {n : Int} (hm0 : MenuOk m0) :
    ((nextM m0 n).err ≠ 0 → (nextM m0 n).err = 67) ∧
    ((nextM m0 n).err = 0 → ∀ m, m = (nextM m0 n).menu → loadN m = n ∧ loadB m = true ∧ (loadM m).trial = n ∧ (loadM m).next = 0 ∧ loadN (loadM m) = m.def_ ∧ loadB (loadM m) = false ∧ (loadM (loadM m)).trial = 0 ∧
      (defaultM (loadM m) n).err = 0 ∧ loadN (defaultM (loadM m) n).menu = n ∧ loadB (defaultM (loadM m) n).menu = false ∧ (loadM (defaultM (loadM m) n).menu).def_ = n) := by
  constructor
  · intro h
    unfold nextM at h ⊢
    rcases findE_cases m0 n with h1 | h1 | ⟨h1, h2, h3⟩
    · have := (menuB_iff m0).2 hm0
      unfold findE at h1
      rw [this] at h1
      simp at h1
      split at h1 <;> omega
    · rw [if_pos (by rw [h1]; decide), h1]; rfl
    · rw [if_neg (by rw [h1]; decide)] at h; exact absurd rfl h
  · intro h m hm
    obtain ⟨_, hh, e, hk⟩ := nextM_ok h
    rw [← hm] at hk
    have hn0 : n ≠ 0 := by
      rintro rfl
      obtain ⟨g, hg, h0⟩ := hasB_iff.1 hh
      have := (hm0.gens.low g hg).1
      omega
    rw [e] at hm
    have e1 : m.next = n := by rw [hm]
    have e2 : m.gens = m0.gens := by rw [hm]
    have hl : loadM m = { m with trial := m.next, next := 0 } := by unfold loadM; rw [if_pos (by rw [e1]; exact hn0)]
    have hl2 : loadM (loadM m) = { loadM m with trial := 0 } := loadM_zero (by rw [hl])
    have hok := loadM_ok hk
    have hf : findE (loadM m) n = 0 := by
      unfold findE
      rw [(menuB_iff _).2 hok]
      have : hasB (loadM m).gens n = true := by rw [hl]; show hasB m.gens n = true; rw [e2]; exact hh
      simp [this]
    have hd : defaultM (loadM m) n = ⟨0, { loadM m with def_ := n, next := 0, trial := 0 }⟩ := by
      unfold defaultM; rw [if_neg (by rw [hf]; exact fun h => h rfl)]
    refine ⟨?_, ?_, ?_, ?_, ?_, ?_, ?_, ?_, ?_, ?_, ?_⟩
    · unfold loadN; rw [if_pos (by rw [e1]; exact hn0)]; exact e1
    · unfold loadB; rw [e1]; simpa using hn0
    · rw [hl]; exact e1
    · rw [hl]
    · have : (loadM m).next = 0 := by rw [hl]
      unfold loadN; rw [if_neg (by rw [this]; exact fun h => h rfl), hl]
    · unfold loadB; rw [hl]; rfl
    · rw [hl2]
    · rw [hd]
    · rw [hd]; rfl
    · rw [hd]; rfl
    · rw [hd]; rfl
end Go.Proofs.YtdhlklidenfbeaaGreatDoor
