/- The walk of boot.Parse. -/
import Derived.Test.YtdhlklidenfbeaaGreatDoorBootV
import Derived.Test.YtdhlklidenfbeaaGreatDoorLaw22S
import Derived.Test.YtdhlklidenfbeaaGreatDoorGlob
namespace Go.Proofs.YtdhlklidenfbeaaGreatDoor
open Go.RowKit Go.Shelf
set_option linter.unusedVariables false
set_option linter.unusedSimpArgs false

theorem own_keep0 {w w' : World} {base : Nat} {e : TypeId} {sz : Nat} {v : Value} {n : Nat} {xs : List Value} (h : w.ownsRow base e sz v n xs) (hb : ∀ k, v.ownBlock = some k → w'.heap[k]? = w.heap[k]?) : w'.ownsRow base e sz v n xs := by
  refine ⟨h.1, ?_⟩
  rcases h.2 with hn | ⟨g, cap, cur, rfl, h1, h2, rest⟩
  · exact .inl hn
  · exact .inr ⟨g, cap, cur, rfl, h1, by rw [hb g rfl]; exact h2, rest⟩
def zeroC : Array Value := #[.int .i64 0, .int .i64 0, .int .i64 0, .int .i64 0, .slice none 0 0]
def numsC (g : Nat) : Array Value := #[.pointer (some ⟨g, 0, none⟩), .pointer (some ⟨g, 1, none⟩), .pointer (some ⟨g, 2, none⟩), .pointer (some ⟨g, 3, none⟩)]
def linesC (text : Txt) : Array Value := ((nlines text).map fun t => Value.string ⟨t.toArray⟩).toArray
/-- What stands at the loop's test. -/
structure BP (w wr : World) (text : Txt) (i : Nat) (m : Menu) (A : Option Addr) (n c : Nat) : Prop where
  menu : Blk wr (w.heap.size + 1) 24 (mnCells m A n c)
  own : wr.ownsRow w.heap.size 61 2 (.slice A n c) n (m.gens.flatMap genCells)
  res : Blk wr w.heap.size 24 zeroC
  nums : Blk wr (w.heap.size + 2) 67 (numsC (w.heap.size + 1))
  lines : Blk wr (w.heap.size + 3) 9 (linesC text)
  few : n ≤ i
  paths : ∀ g ∈ m.gens, g.path.length ≤ 10000000
  says : ∀ μ, menuB μ = true → textM μ = text → Reads μ i m
  bel : Below w.heap.size w wr
theorem own_neT {w : World} {base g n c : Nat} {A : Option Addr} {xs : List Value} {t : TypeId} {cs : Array Value} (h : w.ownsRow base 61 2 (.slice A n c) n xs) (hB : Blk w g t cs) (ht : t ≠ 61) : (Value.slice A n c).ownBlock ≠ some g := fun e => by
  rcases h.2 with ⟨e1, _⟩ | ⟨g', cap, cur, e1, _, h2, _⟩
  · rw [e1] at e; cases e
  · rw [e1] at e
    injection e with e
    subst e
    exact Blk.ne_ hB (show Blk w g' 61 cur from h2) ht rfl
theorem BP.later {w wr w2 : World} {text : Txt} {i : Nat} {m : Menu} {A : Option Addr} {n c : Nat} (h : BP w wr text i m A n c) (hb : Below wr.heap.size wr w2) : BP w w2 text i m A n c :=
  ⟨h.menu.below hb h.menu.lt, own_below h.own hb, h.res.below hb h.res.lt, h.nums.below hb h.nums.lt, h.lines.below hb h.lines.lt, h.few, h.paths, h.says, h.bel.trans (hb.mono h.bel.size)⟩
theorem BP.next {w wr : World} {text : Txt} {i : Nat} {m : Menu} {A : Option Addr} {n c : Nat} (h : BP w wr text i m A n c) (hs : ∀ μ, menuB μ = true → textM μ = text → Reads μ (i + 1) m) : BP w wr text (i + 1) m A n c :=
  ⟨h.menu, h.own, h.res, h.nums, h.lines, Nat.le_succ_of_le h.few, h.paths, hs, h.bel⟩
/-- A number is set. -/
theorem BP.set_ {w wr : World} {text : Txt} {i j : Nat} {m m' : Menu} {A : Option Addr} {n c : Nat} (h : BP w wr text i m A n c) {v : Int} (hc : (mnCells m A n c).setIfInBounds j (.int .i64 v) = mnCells m' A n c) (hg : m'.gens = m.gens) (hs : ∀ μ, menuB μ = true → textM μ = text → Reads μ (i + 1) m') :
    BP w (wr.setCell ⟨w.heap.size + 1, j, none⟩ (.int .i64 v)) text (i + 1) m' A n c := by
  have hne := own_neT h.own h.menu (by decide)
  refine ⟨?_, ?_, h.res.far (by simp) _, h.nums.far (by simp) _, h.lines.far (by simp) _, Nat.le_succ_of_le h.few, by rw [hg]; exact h.paths, hs, h.bel.setCell (p := ⟨w.heap.size + 1, j, none⟩) (by simp) _⟩
  · rw [← hc]; exact h.menu.set_ j _
  · rw [hg]; exact own_keep0 h.own (fun k hk => Below.heap_setCell wr _ _ k (fun e => hne (by rw [hk, e])))
/-- A generation more. -/
theorem BP.gen {w wr : World} {text : Txt} {i : Nat} {m : Menu} {A : Option Addr} {n c : Nat} (h : BP w wr text i m A n c) (v : Int) (p : Txt) (hp : p.length ≤ 10000000) (hi : i ≤ 100000000) (hs : ∀ μ, menuB μ = true → textM μ = text → Reads μ (i + 1) ⟨m.last, m.def_, m.next, m.trial, m.gens ++ [⟨v, p⟩]⟩) :
    ∃ A' c' w6, (Builtin.append_ #[22, 22] 22 #[.slice A n c, .slice (some ⟨wr.heap.size, 0, none⟩) 1 1]).run Tryz.prog (wr.alloc (.cells #[.int .i64 v, .string ⟨p.toArray⟩] 61)) = .ok (.slice A' (n + 1) c') w6 ∧
      (∃ u, w6.cell? ⟨w.heap.size + 1, 4, none⟩ = some u) ∧ w6.frozen? ⟨w.heap.size + 1, 4, none⟩ = false ∧
      BP w (w6.setCell ⟨w.heap.size + 1, 4, none⟩ (.slice A' (n + 1) c')) text (i + 1) ⟨m.last, m.def_, m.next, m.trial, m.gens ++ [⟨v, p⟩]⟩ A' (n + 1) c' := by
  have hk : GensAt (wr.alloc (.cells #[.int .i64 v, .string ⟨p.toArray⟩] 61)) (wr.heap.size + 1) (some ⟨wr.heap.size, 0, none⟩) 1 1 [⟨v, p⟩] :=
    ⟨slc_new wr 61 (0, 0) #[.int .i64 v, .string ⟨p.toArray⟩] (sz := 2) (n := 1) (c := 1) rfl (Nat.le_refl _) (by decide), rfl⟩
  have hs0 := h.bel.size
  have hn := h.few
  obtain ⟨A', c', w6, h1, h2, h3, h4⟩ := append_gens (wr.alloc (.cells #[.int .i64 v, .string ⟨p.toArray⟩] 61)) w.heap.size _ n m.gens (h.own.alloc _) hk (by omega) (by simp; omega)
  have hb1 : Below wr.heap.size wr (wr.alloc (.cells #[.int .i64 v, .string ⟨p.toArray⟩] 61)) := (Below.refl _ wr).alloc (Nat.le_refl _) _
  have h' := h.later hb1
  have hob : ∀ {g : Nat} {t : TypeId} {cs : Array Value}, Blk wr g t cs → t ≠ 61 → Blk w6 g t cs := fun hB ht => by
    have hne := own_neT h.own hB ht
    exact (hB.alloc _).grown h3 (fun e => hne (by rw [e]))
  have m6 := hob h.menu (by decide)
  have hne6 : (Value.slice A' (n + 1) c').ownBlock ≠ some (w.heap.size + 1) := own_neT h2 m6 (by decide)
  refine ⟨A', c', w6, h1, ⟨_, by rw [m6.cell]; rfl⟩, m6.frozen _, m6.set_ 4 _, ?_, (hob h.res (by decide)).far (by simp) _, (hob h.nums (by decide)).far (by simp) _, (hob h.lines (by decide)).far (by simp) _, by omega, fun g hg => ?_, hs, ?_⟩
  · exact own_keep0 (by simpa using h2) (fun k hk => Below.heap_setCell w6 _ _ k (fun e => hne6 (by rw [hk, e])))
  · rcases List.mem_append.1 hg with hg | hg
    · exact h.paths g hg
    · rw [List.mem_singleton.1 hg]; exact hp
  · exact ((h'.bel).grown h3 (by simp; omega) (fun q hq => (h.own.lt q hq).1)).setCell (p := ⟨w.heap.size + 1, 4, none⟩) (by simp) _
theorem reads_num {μ m : Menu} {i : Nat} (h : Reads μ i m) {v : Int} (h1 : 1 ≤ i) (h4 : i ≤ 4) (hv : v = if i = 1 then μ.last else if i = 2 then μ.def_ else if i = 3 then μ.next else μ.trial) :
    Reads μ (i + 1) (if i = 1 then ⟨v, m.def_, m.next, m.trial, m.gens⟩ else if i = 2 then ⟨m.last, v, m.next, m.trial, m.gens⟩ else if i = 3 then ⟨m.last, m.def_, v, m.trial, m.gens⟩ else ⟨m.last, m.def_, m.next, v, m.gens⟩) := by
  obtain ⟨a, b, c, d, e⟩ := h
  have : i = 1 ∨ i = 2 ∨ i = 3 ∨ i = 4 := by omega
  rcases this with rfl | rfl | rfl | rfl <;> simp at a b c d e hv ⊢ <;> constructor <;> simp [a, b, c, d, e, hv]
theorem reads_gen {μ m : Menu} {i : Nat} (h : Reads μ i m) (h5 : 5 ≤ i) (hi : i - 5 < μ.gens.length) {g : Gen} (hg : g = μ.gens[i - 5]) : Reads μ (i + 1) ⟨m.last, m.def_, m.next, m.trial, m.gens ++ [g]⟩ := by
  obtain ⟨a, b, c, d, e⟩ := h
  rw [if_pos (by omega)] at a b c d
  refine ⟨?_, ?_, ?_, ?_, ?_⟩
  · rw [if_pos (by omega)]; exact a
  · rw [if_pos (by omega)]; exact b
  · rw [if_pos (by omega)]; exact c
  · rw [if_pos (by omega)]; exact d
  · simp only
    rw [e, hg, show i + 1 - 5 = (i - 5) + 1 by omega, List.take_succ_eq_append_getElem hi]
theorem reads_skip {μ m : Menu} {i : Nat} (h : Reads μ i m) (hi : i = 0 ∨ 5 ≤ i ∧ μ.gens.length ≤ i - 5) : Reads μ (i + 1) m := by
  obtain ⟨a, b, c, d, e⟩ := h
  rcases hi with rfl | ⟨h5, hi⟩
  · exact ⟨a, b, c, d, e⟩
  · rw [if_pos (by omega)] at a b c d
    refine ⟨by rw [if_pos (by omega)]; exact a, by rw [if_pos (by omega)]; exact b, by rw [if_pos (by omega)]; exact c, by rw [if_pos (by omega)]; exact d, ?_⟩
    rw [e, List.take_of_length_le hi, List.take_of_length_le (by omega)]
/-- Where a line stands, for a right menu's text. -/
theorem line_cases {μ : Menu} (hm : menuB μ = true) {text : Txt} (ht : textM μ = text) {i : Nat} (hi : i < (nlines text).length) {s : Txt} (hs : (nlines text)[i] = s) : (menuL μ)[i]? = some s ∧ (nlines text).length = μ.gens.length + 7 := by
  have e : nlines text = menuL μ := by rw [← ht]; exact lines_menu hm
  refine ⟨?_, by rw [e, menuL_length]⟩
  rw [← e, List.getElem?_eq_getElem hi, hs]
theorem nlines_short (text : Txt) : ∀ s ∈ nlines text, s.length ≤ text.length := by
  have key : ∀ (n : Nat) (t : Txt), t.length ≤ n → ∀ s ∈ nlines t, s.length ≤ t.length := by
    intro n
    induction n with
    | zero =>
      intro t ht s hs
      obtain rfl : t = [] := List.eq_nil_of_length_eq_zero (by omega)
      rw [nlines_one (by simp)] at hs
      rw [List.mem_singleton.1 hs]
      exact Nat.le_refl _
    | succ n ih =>
      intro t ht s hs
      by_cases h : (10 : UInt8) ∈ t
      · obtain ⟨a, r, ha, rfl⟩ : ∃ a r, (10 : UInt8) ∉ a ∧ t = a ++ 10 :: r := by
          clear ih hs ht
          induction t with
          | nil => cases h
          | cons c l ih2 =>
            by_cases hc : c = 10
            · subst hc; exact ⟨[], l, by simp, rfl⟩
            · obtain ⟨a, r, ha, rfl⟩ := ih2 (by rcases List.mem_cons.1 h with h | h; exact absurd h.symm hc; exact h)
              refine ⟨c :: a, r, fun hm => ?_, rfl⟩
              rcases List.mem_cons.1 hm with hm | hm
              · exact hc hm.symm
              · exact ha hm
        rw [nlines_cons ha] at hs
        simp only [List.length_append, List.length_cons] at ht ⊢
        rcases List.mem_cons.1 hs with rfl | hs
        · omega
        · have := ih r (by omega) s hs
          omega
      · rw [nlines_one h] at hs
        rw [List.mem_singleton.1 hs]
        exact Nat.le_refl _
  exact key text.length text (Nat.le_refl _)
theorem word_le (s : Txt) : (wordL s).length ≤ s.length ∧ (restL s).length ≤ s.length := by
  unfold wordL restL Lib.cut
  split <;> simp [Nat.min_le_right]
theorem cut_any (w : World) (s : Txt) (hs : s.length ≤ 10000000) (hm : MaxOk w) : Calls Tryz.prog 35 #[.string ⟨s.toArray⟩, .string ⟨#[32]⟩] w fun e w' => (∃ b, e = .returned (.tuple #[.string ⟨(wordL s).toArray⟩, .string ⟨(restL s).toArray⟩, .bool b])) ∧ Below w.heap.size w w' := by
  obtain ⟨m, hm⟩ := hm.now
  refine (Tryz.strings_Cut ⟨s.toArray⟩ ⟨#[32]⟩ m w (by rw [show (ByteArray.mk s.toArray).size = s.length from rfl]; omega) hm).mono ?_
  rintro e w' ⟨rfl, q, rfl⟩
  exact ⟨⟨_, rfl⟩, rfl, rfl, rfl, Nat.le_refl _, fun _ _ => rfl⟩
theorem split_lines (w : World) (s : Txt) (hs : s.length ≤ 10000000) (hm : MaxOk w) :
    Calls Tryz.prog 34 #[.string ⟨s.toArray⟩, .string ⟨#[10]⟩] w fun e w' => e = .returned (.slice (some ⟨w.heap.size, 0, none⟩) (nlines s).length (nlines s).length) ∧ w' = w.alloc (.cells (linesC s) 9) := by
  obtain ⟨m, hm⟩ := hm.now
  have h := Tryz.strings_Split ⟨s.toArray⟩ ⟨#[10]⟩ m w (by rw [show (ByteArray.mk s.toArray).size = s.length from rfl]; omega) hm (by decide)
  rw [← nlines_length, nlines_cells] at h
  exact h
def BParsePost (w : World) (text : Txt) : Ending → World → Prop := fun e w' => Below w.heap.size w w' ∧
  ((∃ m A n c, e = .returned (.tuple #[menuV m A n c, .int .i64 0]) ∧ w'.ownsRow w.heap.size 61 2 (.slice A n c) n (m.gens.flatMap genCells) ∧ menuB m = true ∧ textM m = text) ∨
   (e = .returned (.tuple #[menuV zeroM none 0 0, .int .i64 66]) ∧ ∀ μ, menuB μ = true → textM μ ≠ text))
theorem nlines_count : ∀ (n : Nat) (t : Txt), t.length ≤ n → (nlines t).length ≤ t.length + 1 := by
  intro n
  induction n with
  | zero =>
    intro t ht
    obtain rfl : t = [] := List.eq_nil_of_length_eq_zero (by omega)
    rw [nlines_one (by simp)]
    simp
  | succ n ih =>
    intro t ht
    by_cases h : (10 : UInt8) ∈ t
    · obtain ⟨a, r, ha, rfl⟩ : ∃ a r, (10 : UInt8) ∉ a ∧ t = a ++ 10 :: r := by
        clear ih ht
        induction t with
        | nil => cases h
        | cons c l ih2 =>
          by_cases hc : c = 10
          · subst hc; exact ⟨[], l, by simp, rfl⟩
          · obtain ⟨a, r, ha, rfl⟩ := ih2 (by rcases List.mem_cons.1 h with h | h; exact absurd h.symm hc; exact h)
            refine ⟨c :: a, r, fun hm => ?_, rfl⟩
            rcases List.mem_cons.1 hm with hm | hm
            · exact hc hm.symm
            · exact ha hm
      rw [nlines_cons ha]
      simp only [List.length_append, List.length_cons] at ht ⊢
      have := ih r (by omega)
      omega
    · rw [nlines_one h]
      simp
theorem bp_start {w w4 : World} {text : Txt} (h : w4 = (((w.alloc (.cells zeroC 24)).alloc (.cells zeroC 24)).alloc (.cells (numsC (w.heap.size + 1)) 67)).alloc (.cells (linesC text) 9)) : BP w w4 text 0 zeroM none 0 0 := by
  subst h
  have r0 := ((Blk.new w 24 zeroC).alloc (.cells zeroC 24)).alloc (.cells (numsC (w.heap.size + 1)) 67)
  have r1 := (Blk.new (w.alloc (.cells zeroC 24)) 24 zeroC).alloc (.cells (numsC (w.heap.size + 1)) 67)
  have r2 := Blk.new ((w.alloc (.cells zeroC 24)).alloc (.cells zeroC 24)) 67 (numsC (w.heap.size + 1))
  have r3 := Blk.new (((w.alloc (.cells zeroC 24)).alloc (.cells zeroC 24)).alloc (.cells (numsC (w.heap.size + 1)) 67)) 9 (linesC text)
  simp only [World.size_alloc] at r1 r2 r3
  refine ⟨r1.alloc _, World.ownsRow_nil _ _ _ _, r0.alloc _, r2.alloc _, r3, Nat.le_refl _, (fun g hg => by cases hg), fun μ _ _ => Reads.start μ, ?_⟩
  exact ((((Below.refl _ w).alloc (Nat.le_refl _) _).alloc (by simp) _).alloc (by simp; omega) _).alloc (by simp; omega) _
theorem atoi_ok1 {w : World} {q : Txt} {v : Int} (hq : q.length ≤ 10000000) (hm : AtoiOk w) (hv : Lib.atoiAll q = .ok v) : Calls Tryz.prog 36 #[.string ⟨q.toArray⟩] w fun e w' => e = .returned (.tuple #[.int .i64 v, .nilIface]) ∧ Below w.heap.size w w' := by
  refine (atoi_any w q (by omega) hm).mono ?_
  rintro e w' ⟨hb, u, err, rfl, ⟨rfl, h⟩ | ⟨_, h⟩⟩
  · rw [hv] at h
    injection h with h
    subst h
    exact ⟨rfl, hb⟩
  · exact absurd hv (h v)
theorem atoi_bad1 {w : World} {q : Txt} (hq : q.length ≤ 10000000) (hm : AtoiOk w) (hv : ∀ v, Lib.atoiAll q ≠ .ok v) : Calls Tryz.prog 36 #[.string ⟨q.toArray⟩] w fun e w' => ∃ u N, e = .returned (.tuple #[.int .i64 u, .iface 125 (.pointer (some ⟨N, 0, none⟩))]) ∧ Below w.heap.size w w' := by
  refine (atoi_any w q (by omega) hm).mono ?_
  rintro e w' ⟨hb, u, err, rfl, ⟨rfl, h⟩ | ⟨⟨N, rfl⟩, h⟩⟩
  · exact absurd h (hv u)
  · exact ⟨u, N, rfl, hb⟩
theorem bp_fail {w w' : World} {text : Txt} {tmps : Array Value} (hR : Blk w' w.heap.size 24 zeroC) (hb : Below w.heap.size w w') (hno : ∀ μ, menuB μ = true → textM μ ≠ text)
    (h2 : tmps.getD 2 undef = .pointer (some ⟨w.heap.size, 0, none⟩)) (h3 : tmps.getD 3 undef = .int .i64 66) :
    bodyPost Tryz.prog Tryz.f11 (BParsePost w text) Exit.ret { tmps := tmps, defers := [] } w' := by
  refine bodyPost_ret (res_menu2 (t := 2) (u := 3) (g := w.heap.size) rfl h2 hR rfl) rfl ⟨hb, .inr ⟨?_, hno⟩⟩
  rw [h3]
  rfl
theorem BP.cells {w wr : World} {text : Txt} {i : Nat} {m : Menu} {A : Option Addr} {n c : Nat} (h : BP w wr text i m A n c) :
    (wr.cell? ⟨w.heap.size + 2, 0, none⟩ = some (.pointer (some ⟨w.heap.size + 1, 0, none⟩)) ∧ wr.cell? ⟨w.heap.size + 2, 1, none⟩ = some (.pointer (some ⟨w.heap.size + 1, 1, none⟩)) ∧ wr.cell? ⟨w.heap.size + 2, 2, none⟩ = some (.pointer (some ⟨w.heap.size + 1, 2, none⟩)) ∧ wr.cell? ⟨w.heap.size + 2, 3, none⟩ = some (.pointer (some ⟨w.heap.size + 1, 3, none⟩))) ∧
    (wr.cell? ⟨w.heap.size + 1, 0, none⟩ = some (.int .i64 m.last) ∧ wr.cell? ⟨w.heap.size + 1, 1, none⟩ = some (.int .i64 m.def_) ∧ wr.cell? ⟨w.heap.size + 1, 2, none⟩ = some (.int .i64 m.next) ∧ wr.cell? ⟨w.heap.size + 1, 3, none⟩ = some (.int .i64 m.trial) ∧ wr.cell? ⟨w.heap.size + 1, 4, none⟩ = some (.slice A n c)) ∧
    ∀ j, wr.frozen? ⟨w.heap.size + 1, j, none⟩ = false := by
  refine ⟨⟨?_, ?_, ?_, ?_⟩, ⟨?_, ?_, ?_, ?_, ?_⟩, h.menu.frozen⟩
  all_goals first | (rw [h.nums.cell]; rfl) | (rw [h.menu.cell]; rfl)
theorem itoa_tab6 (w : World) (x : Int) (h0 : 0 ≤ x) (h1 : x ≤ 999999) (ht : TabOk w) : ItoaOk w x := by
  obtain ⟨n, rfl⟩ : ∃ n : Nat, x = (n : Int) := ⟨x.toNat, by omega⟩
  refine ⟨fun w' hw => (Tryz.strconv_Itoa (n : Int) (by omega) (by omega) w' (ht.tab w' hw)).mono ?_, Nat.le_trans (Lib.itoa_length_le n (by omega) (by omega)) (by decide)⟩
  rintro e w'' ⟨rfl, k, os, rfl⟩
  exact ⟨rfl, below_grown _ k os⟩
theorem itoa_menu {w : World} {m : Menu} (hm : menuB m = true) (ht : TabOk w) : ItoaMenu w m := by
  have R := right_menu hm
  exact ⟨itoa_tab6 w _ R.last.1 R.last.2 ht, itoa_tab6 w _ R.def_.1 R.def_.2 ht, itoa_tab6 w _ R.next.1 R.next.2 ht, itoa_tab6 w _ R.trial.1 R.trial.2 ht, fun g hg => itoa_tab6 w _ (R.gens g hg).1 (R.gens g hg).2.1 ht⟩
section
attribute [local go_sem ↓] load_menu_mark store_menu_mark
set_option maxRecDepth 100000 in
set_option maxHeartbeats 8000000 in
theorem bparse_any {w : World} {text : Txt} (hlen : text.length ≤ 10000000) (hm : MaxOk w) (ha : AtoiOk w) (ht : TabOk w) :
    Calls Tryz.prog 11 #[.string ⟨text.toArray⟩] w (BParsePost w text) := by
  have hb3 : Below w.heap.size w (((w.alloc (.cells zeroC 24)).alloc (.cells zeroC 24)).alloc (.cells (numsC (w.heap.size + 1)) 67)) := (((Below.refl _ w).alloc (Nat.le_refl _) _).alloc (by simp) _).alloc (by simp; omega) _
  have hsp := split_lines _ text hlen (hm.below hb3)
  have hct := nlines_count text.length text (Nat.le_refl _)
  obtain ⟨L, hL⟩ : ∃ L, L = (nlines text).length := ⟨_, rfl⟩
  rw [← hL] at hsp hct
  have hL62 : L ≤ 9223372036854775807 := by omega
  have HL := Lib.hid hL
  have HCT := Lib.hid (show L ≤ 10000001 by omega)
  have HM := Lib.hid hm
  have HA := Lib.hid ha
  have HT := Lib.hid ht
  have HLEN := Lib.hid hlen
  have HST := Lib.hid (fun (w4 : World) h => bp_start (w := w) (w4 := w4) (text := text) h)
  unfold zeroC numsC at hsp HST
  simp only [World.size_alloc] at hsp
  clear hb3 hm ha ht hL hlen hct
  go_enter Tryz.func11, Tryz.ntmps11
  go_wp2_with (go_at_call 34; refine hsp.mono ?_; clear hsp; rintro e w4 ⟨rfl, hw4⟩; have HB0 := Lib.hid (HST.out w4 hw4); clear hw4 HST)
  go_loopw [24] (fun i wr => ∃ (k : Nat) (m : Menu) (A : Option Addr) (n c : Nat), k ≤ L ∧ i = .int .i64 (k : Int) ∧ Aside (BP w wr text k m A n c)) (fun i _ => L - (intOf i).toNat)
  case atStart => exact ⟨0, zeroM, none, 0, 0, Nat.zero_le _, rfl, HB0.out⟩
  case round =>
    obtain ⟨k, m, A, n, c, hk, rfl, hbp⟩ := hrel
    clear HB0
    by_cases hlt : k < L
    case pos =>
      obtain ⟨s, hs⟩ : ∃ s, s = (nlines text)[k]'(by rw [← HL.out]; exact hlt) := ⟨_, rfl⟩
      have hsl : s.length ≤ 10000000 := by
        have := nlines_short text s (by rw [hs]; exact List.getElem_mem _)
        have := HLEN.out
        omega
      have hw1 := word_le s
      have hw2 := word_le (restL s)
      have HMU := Lib.hid (fun (μ : Menu) (h1 : menuB μ = true) (h2 : textM μ = text) => line_cases h1 h2 (i := k) (by rw [← HL.out]; exact hlt) hs.symm)
      have cl : wr.cell? ⟨w.heap.size + 3, k, none⟩ = some (.string ⟨s.toArray⟩) := by
        rw [hbp.out.lines.cell]
        unfold linesC
        rw [List.getElem?_toArray, List.getElem?_map, List.getElem?_eq_getElem (by rw [← HL.out]; exact hlt), hs]
        rfl
      have hwb := hbp.out.bel
      have HWB := Lib.hid hwb
      have HBP := Lib.hid hbp.out
      have hct1 := cut_any wr s hsl (HM.out.below hwb)
      have HC2 := Lib.hid (fun (W : World) (hW : Below wr.heap.size wr W) => cut_any W (restL s) (by omega) (HM.out.below (hwb.trans (hW.mono hwb.size))))
      have HFL := Lib.hid (show (firstL s).length ≤ 10000000 by unfold firstL; omega)
      have HPL := Lib.hid (show (pathL s).length ≤ 10000000 by unfold pathL; omega)
      clear hbp hs hwb hsl hw1 hw2
      by_cases hex : ∃ v, Lib.atoiAll (firstL s) = .ok v
      · obtain ⟨v, hv⟩ := hex
        have HV := Lib.hid hv
        have HAT := Lib.hid (fun (W : World) (hW : Below wr.heap.size wr W) => atoi_ok1 (w := W) HFL.out (HA.out.below (HWB.out.trans (hW.mono HWB.out.size))) HV.out)
        clear hv
        unfold firstL at HAT
        rcases Nat.lt_or_ge 4 k with h4 | h4
        · have hk5 : 5 ≤ k := h4
          by_cases hwg0 : wordL s = [103, 101, 110]
          · have HWG := Lib.hid hwg0
            clear hwg0
            have HSY := Lib.hid (show ∀ μ, menuB μ = true → textM μ = text → Reads μ (k + 1) ⟨m.last, m.def_, m.next, m.trial, m.gens ++ [⟨v, pathL s⟩]⟩ from fun μ h1 h2 => by
                have hr := HBP.out.says μ h1 h2
                obtain ⟨hl, hn⟩ := HMU.out μ h1 h2
                have hin : k - 5 < μ.gens.length := by
                  rcases Nat.lt_or_ge (k - 5) μ.gens.length with h | h
                  · exact h
                  · exact absurd HWG.out (line_other hl (.inr ⟨hk5, h⟩)).1
                obtain ⟨g1, g2, g3⟩ := line_gen h1 hl hk5 hin
                have e2 := HV.out.symm.trans g2
                injection e2 with e2
                exact reads_gen hr hk5 hin (by rw [e2, g3]))
            have hwg : (wordL s == [103, 101, 110]) = true := by simpa using HWG.out
            have tls : (ByteArray.mk (wordL s).toArray).toList = wordL s := Go.ByteArray.toList_eq _
            go_wp2_with (first
              | (go_at_call 35; refine hct1.mono ?_; clear hct1; rintro e w1 ⟨⟨b1, rfl⟩, hb1⟩; have HB1 := Lib.hid hb1; have hct2 := HC2.out w1 hb1; clear HC2 hb1)
              | (go_at_call 35; refine hct2.mono ?_; clear hct2; rintro e w2 ⟨⟨b2, rfl⟩, hb2⟩; have HB2 := Lib.hid (HB1.out.trans (hb2.mono HB1.out.size)); have hat1 := HAT.out w2 HB2.out; clear HAT hb2)
              | (go_at_call 36; refine hat1.mono ?_; clear hat1; rintro e w3 ⟨rfl, hb3⟩; have hbp3 := HBP.out.later (HB2.out.trans (hb3.mono HB2.out.size)); obtain ⟨⟨n0, n1, n2, n3⟩, ⟨m0, m1, m2, m3, m4⟩, mf⟩ := hbp3.cells; have mf0 := mf 0; have mf1 := mf 1; have mf2 := mf 2; have mf3 := mf 3; have mf4 := mf 4; clear mf; obtain ⟨A', c', w6, hrun, ⟨u6, hu6⟩, hf6, hq6⟩ := hbp3.gen v (pathL s) HPL.out (by have := HCT.out; omega) HSY.out; have HRUN := Lib.hid hrun; have HQ6 := Lib.hid hq6; clear hrun hq6; have HBP3 := Lib.hid hbp3; clear hb3 hbp3)
              | (at_builtin; refine wpList_append_run rfl _ _ _ rfl rfl rfl HRUN.out ?_; clear HRUN))
            exact ⟨⟨k + 1, _, A', n + 1, c', by omega, by go_num, HQ6.out⟩, by simp [intOf]; omega⟩
          · have HWG := Lib.hid hwg0
            clear hwg0
            have hwg : (wordL s == [103, 101, 110]) = false := by simpa using HWG.out
            have tls : (ByteArray.mk (wordL s).toArray).toList = wordL s := Go.ByteArray.toList_eq _
            have HNO := Lib.hid (show ∀ μ, menuB μ = true → textM μ ≠ text from fun μ h1 h2 => by
                obtain ⟨hl, hn⟩ := HMU.out μ h1 h2
                exact (line_other hl (.inr ⟨hk5, by
                  rcases Nat.lt_or_ge (k - 5) μ.gens.length with h | h
                  · exact absurd (line_gen h1 hl hk5 h).1 HWG.out
                  · exact h⟩)).2 v HV.out)
            go_wp2_with (first
              | (go_at_call 35; refine hct1.mono ?_; clear hct1; rintro e w1 ⟨⟨b1, rfl⟩, hb1⟩; have HB1 := Lib.hid hb1; have hct2 := HC2.out w1 hb1; clear HC2 hb1)
              | (go_at_call 35; refine hct2.mono ?_; clear hct2; rintro e w2 ⟨⟨b2, rfl⟩, hb2⟩; have HB2 := Lib.hid (HB1.out.trans (hb2.mono HB1.out.size)); have hat1 := HAT.out w2 HB2.out; clear HAT hb2)
              | (go_at_call 36; refine hat1.mono ?_; clear hat1; rintro e w3 ⟨rfl, hb3⟩; have hbp3 := HBP.out.later (HB2.out.trans (hb3.mono HB2.out.size)); have hst := store_menu hbp3.res rfl 0 0 0 0 none 0 0; have HBP3 := Lib.hid hbp3; clear hb3 hbp3))
            exact bp_fail (HBP3.out.res.row _) (below_row HBP3.out.bel (Nat.le_refl _) _) HNO.out rfl rfl
        · have hk4 : k = 0 ∨ k = 1 ∨ k = 2 ∨ k = 3 ∨ k = 4 := by omega
          rcases hk4 with rfl | rfl | rfl | rfl | rfl
          · have HNO := Lib.hid (show ∀ μ, menuB μ = true → textM μ ≠ text from fun μ h1 h2 => by
                obtain ⟨hl, hn⟩ := HMU.out μ h1 h2
                exact (line_other hl (.inl rfl)).2 v HV.out)
            go_wp2_with (first
              | (go_at_call 35; refine hct1.mono ?_; clear hct1; rintro e w1 ⟨⟨b1, rfl⟩, hb1⟩; have HB1 := Lib.hid hb1; have hct2 := HC2.out w1 hb1; clear HC2 hb1)
              | (go_at_call 35; refine hct2.mono ?_; clear hct2; rintro e w2 ⟨⟨b2, rfl⟩, hb2⟩; have HB2 := Lib.hid (HB1.out.trans (hb2.mono HB1.out.size)); have hat1 := HAT.out w2 HB2.out; clear HAT hb2)
              | (go_at_call 36; refine hat1.mono ?_; clear hat1; rintro e w3 ⟨rfl, hb3⟩; have hbp3 := HBP.out.later (HB2.out.trans (hb3.mono HB2.out.size)); have hst := store_menu hbp3.res rfl 0 0 0 0 none 0 0; have HBP3 := Lib.hid hbp3; clear hb3 hbp3))
            exact bp_fail (HBP3.out.res.row _) (below_row HBP3.out.bel (Nat.le_refl _) _) HNO.out rfl rfl
          · go_wp2_with (first
              | (go_at_call 35; refine hct1.mono ?_; clear hct1; rintro e w1 ⟨⟨b1, rfl⟩, hb1⟩; have HB1 := Lib.hid hb1; have hct2 := HC2.out w1 hb1; clear HC2 hb1)
              | (go_at_call 35; refine hct2.mono ?_; clear hct2; rintro e w2 ⟨⟨b2, rfl⟩, hb2⟩; have HB2 := Lib.hid (HB1.out.trans (hb2.mono HB1.out.size)); have hat1 := HAT.out w2 HB2.out; clear HAT hb2)
              | (go_at_call 36; refine hat1.mono ?_; clear hat1; rintro e w3 ⟨rfl, hb3⟩; have hbp3 := HBP.out.later (HB2.out.trans (hb3.mono HB2.out.size)); obtain ⟨⟨n0, n1, n2, n3⟩, ⟨m0, m1, m2, m3, m4⟩, mf⟩ := hbp3.cells; have mf0 := mf 0; have mf1 := mf 1; have mf2 := mf 2; have mf3 := mf 3; have mf4 := mf 4; clear mf; have HBP3 := Lib.hid hbp3; clear hb3 hbp3))
            have hq := HBP3.out.set_ (j := 0) (v := v) (m' := ⟨v, m.def_, m.next, m.trial, m.gens⟩) rfl rfl (fun μ h1 h2 => by
              have hr := HBP3.out.says μ h1 h2
              have e1 := line_num h1 (HMU.out μ h1 h2).1 (by decide) (by decide)
              have e3 : v = μ.last := by
                have e2 := HV.out.symm.trans e1; injection e2
              have := reads_num hr (v := v) (by decide) (by decide) (by simpa using e3)
              simpa using this)
            exact ⟨⟨2, _, A, n, c, by omega, rfl, hq⟩, by simp [intOf]; omega⟩
          · go_wp2_with (first
              | (go_at_call 35; refine hct1.mono ?_; clear hct1; rintro e w1 ⟨⟨b1, rfl⟩, hb1⟩; have HB1 := Lib.hid hb1; have hct2 := HC2.out w1 hb1; clear HC2 hb1)
              | (go_at_call 35; refine hct2.mono ?_; clear hct2; rintro e w2 ⟨⟨b2, rfl⟩, hb2⟩; have HB2 := Lib.hid (HB1.out.trans (hb2.mono HB1.out.size)); have hat1 := HAT.out w2 HB2.out; clear HAT hb2)
              | (go_at_call 36; refine hat1.mono ?_; clear hat1; rintro e w3 ⟨rfl, hb3⟩; have hbp3 := HBP.out.later (HB2.out.trans (hb3.mono HB2.out.size)); obtain ⟨⟨n0, n1, n2, n3⟩, ⟨m0, m1, m2, m3, m4⟩, mf⟩ := hbp3.cells; have mf0 := mf 0; have mf1 := mf 1; have mf2 := mf 2; have mf3 := mf 3; have mf4 := mf 4; clear mf; have HBP3 := Lib.hid hbp3; clear hb3 hbp3))
            have hq := HBP3.out.set_ (j := 1) (v := v) (m' := ⟨m.last, v, m.next, m.trial, m.gens⟩) rfl rfl (fun μ h1 h2 => by
              have hr := HBP3.out.says μ h1 h2
              have e1 := line_num h1 (HMU.out μ h1 h2).1 (by decide) (by decide)
              have e3 : v = μ.def_ := by
                have e2 := HV.out.symm.trans e1; injection e2
              have := reads_num hr (v := v) (by decide) (by decide) (by simpa using e3)
              simpa using this)
            exact ⟨⟨3, _, A, n, c, by omega, rfl, hq⟩, by simp [intOf]; omega⟩
          · go_wp2_with (first
              | (go_at_call 35; refine hct1.mono ?_; clear hct1; rintro e w1 ⟨⟨b1, rfl⟩, hb1⟩; have HB1 := Lib.hid hb1; have hct2 := HC2.out w1 hb1; clear HC2 hb1)
              | (go_at_call 35; refine hct2.mono ?_; clear hct2; rintro e w2 ⟨⟨b2, rfl⟩, hb2⟩; have HB2 := Lib.hid (HB1.out.trans (hb2.mono HB1.out.size)); have hat1 := HAT.out w2 HB2.out; clear HAT hb2)
              | (go_at_call 36; refine hat1.mono ?_; clear hat1; rintro e w3 ⟨rfl, hb3⟩; have hbp3 := HBP.out.later (HB2.out.trans (hb3.mono HB2.out.size)); obtain ⟨⟨n0, n1, n2, n3⟩, ⟨m0, m1, m2, m3, m4⟩, mf⟩ := hbp3.cells; have mf0 := mf 0; have mf1 := mf 1; have mf2 := mf 2; have mf3 := mf 3; have mf4 := mf 4; clear mf; have HBP3 := Lib.hid hbp3; clear hb3 hbp3))
            have hq := HBP3.out.set_ (j := 2) (v := v) (m' := ⟨m.last, m.def_, v, m.trial, m.gens⟩) rfl rfl (fun μ h1 h2 => by
              have hr := HBP3.out.says μ h1 h2
              have e1 := line_num h1 (HMU.out μ h1 h2).1 (by decide) (by decide)
              have e3 : v = μ.next := by
                have e2 := HV.out.symm.trans e1; injection e2
              have := reads_num hr (v := v) (by decide) (by decide) (by simpa using e3)
              simpa using this)
            exact ⟨⟨4, _, A, n, c, by omega, rfl, hq⟩, by simp [intOf]; omega⟩
          · go_wp2_with (first
              | (go_at_call 35; refine hct1.mono ?_; clear hct1; rintro e w1 ⟨⟨b1, rfl⟩, hb1⟩; have HB1 := Lib.hid hb1; have hct2 := HC2.out w1 hb1; clear HC2 hb1)
              | (go_at_call 35; refine hct2.mono ?_; clear hct2; rintro e w2 ⟨⟨b2, rfl⟩, hb2⟩; have HB2 := Lib.hid (HB1.out.trans (hb2.mono HB1.out.size)); have hat1 := HAT.out w2 HB2.out; clear HAT hb2)
              | (go_at_call 36; refine hat1.mono ?_; clear hat1; rintro e w3 ⟨rfl, hb3⟩; have hbp3 := HBP.out.later (HB2.out.trans (hb3.mono HB2.out.size)); obtain ⟨⟨n0, n1, n2, n3⟩, ⟨m0, m1, m2, m3, m4⟩, mf⟩ := hbp3.cells; have mf0 := mf 0; have mf1 := mf 1; have mf2 := mf 2; have mf3 := mf 3; have mf4 := mf 4; clear mf; have HBP3 := Lib.hid hbp3; clear hb3 hbp3))
            have hq := HBP3.out.set_ (j := 3) (v := v) (m' := ⟨m.last, m.def_, m.next, v, m.gens⟩) rfl rfl (fun μ h1 h2 => by
              have hr := HBP3.out.says μ h1 h2
              have e1 := line_num h1 (HMU.out μ h1 h2).1 (by decide) (by decide)
              have e3 : v = μ.trial := by
                have e2 := HV.out.symm.trans e1; injection e2
              have := reads_num hr (v := v) (by decide) (by decide) (by simpa using e3)
              simpa using this)
            exact ⟨⟨5, _, A, n, c, by omega, rfl, hq⟩, by simp [intOf]; omega⟩
      · have HV := Lib.hid (show ∀ v, Lib.atoiAll (firstL s) ≠ .ok v from fun v e => hex ⟨v, e⟩)
        have HAT := Lib.hid (fun (W : World) (hW : Below wr.heap.size wr W) => atoi_bad1 (w := W) HFL.out (HA.out.below (HWB.out.trans (hW.mono HWB.out.size))) HV.out)
        clear hex
        unfold firstL at HAT
        rcases Nat.lt_or_ge 4 k with h4 | h4
        · have hk5 : 5 ≤ k := h4
          by_cases hwg0 : wordL s = [103, 101, 110]
          · have HWG := Lib.hid hwg0
            clear hwg0
            have HSY := Lib.hid (show ∀ (v : Int) μ, menuB μ = true → textM μ = text → Reads μ (k + 1) ⟨m.last, m.def_, m.next, m.trial, m.gens ++ [⟨v, pathL s⟩]⟩ from fun v => fun μ h1 h2 => by
                have hr := HBP.out.says μ h1 h2
                obtain ⟨hl, hn⟩ := HMU.out μ h1 h2
                have hin : k - 5 < μ.gens.length := by
                  rcases Nat.lt_or_ge (k - 5) μ.gens.length with h | h
                  · exact h
                  · exact absurd HWG.out (line_other hl (.inr ⟨hk5, h⟩)).1
                obtain ⟨g1, g2, g3⟩ := line_gen h1 hl hk5 hin
                exact absurd g2 (HV.out _))
            have hwg : (wordL s == [103, 101, 110]) = true := by simpa using HWG.out
            have tls : (ByteArray.mk (wordL s).toArray).toList = wordL s := Go.ByteArray.toList_eq _
            go_wp2_with (first
              | (go_at_call 35; refine hct1.mono ?_; clear hct1; rintro e w1 ⟨⟨b1, rfl⟩, hb1⟩; have HB1 := Lib.hid hb1; have hct2 := HC2.out w1 hb1; clear HC2 hb1)
              | (go_at_call 35; refine hct2.mono ?_; clear hct2; rintro e w2 ⟨⟨b2, rfl⟩, hb2⟩; have HB2 := Lib.hid (HB1.out.trans (hb2.mono HB1.out.size)); have hat1 := HAT.out w2 HB2.out; clear HAT hb2)
              | (go_at_call 36; refine hat1.mono ?_; clear hat1; rintro e w3 ⟨v, N, rfl, hb3⟩; have hbp3 := HBP.out.later (HB2.out.trans (hb3.mono HB2.out.size)); obtain ⟨⟨n0, n1, n2, n3⟩, ⟨m0, m1, m2, m3, m4⟩, mf⟩ := hbp3.cells; have mf0 := mf 0; have mf1 := mf 1; have mf2 := mf 2; have mf3 := mf 3; have mf4 := mf 4; clear mf; obtain ⟨A', c', w6, hrun, ⟨u6, hu6⟩, hf6, hq6⟩ := hbp3.gen v (pathL s) HPL.out (by have := HCT.out; omega) (HSY.out v); have HRUN := Lib.hid hrun; have HQ6 := Lib.hid hq6; clear hrun hq6; have HBP3 := Lib.hid hbp3; clear hb3 hbp3)
              | (at_builtin; refine wpList_append_run rfl _ _ _ rfl rfl rfl HRUN.out ?_; clear HRUN))
            exact ⟨⟨k + 1, _, A', n + 1, c', by omega, by go_num, HQ6.out⟩, by simp [intOf]; omega⟩
          · have HWG := Lib.hid hwg0
            clear hwg0
            have hwg : (wordL s == [103, 101, 110]) = false := by simpa using HWG.out
            have tls : (ByteArray.mk (wordL s).toArray).toList = wordL s := Go.ByteArray.toList_eq _
            have HSY := Lib.hid (show ∀ μ, menuB μ = true → textM μ = text → Reads μ (k + 1) m from fun μ h1 h2 => by
                obtain ⟨hl, hn⟩ := HMU.out μ h1 h2
                exact reads_skip (HBP.out.says μ h1 h2) (.inr ⟨hk5, by
                  rcases Nat.lt_or_ge (k - 5) μ.gens.length with h | h
                  · exact absurd (line_gen h1 hl hk5 h).1 HWG.out
                  · exact h⟩))
            go_wp2_with (first
              | (go_at_call 35; refine hct1.mono ?_; clear hct1; rintro e w1 ⟨⟨b1, rfl⟩, hb1⟩; have HB1 := Lib.hid hb1; have hct2 := HC2.out w1 hb1; clear HC2 hb1)
              | (go_at_call 35; refine hct2.mono ?_; clear hct2; rintro e w2 ⟨⟨b2, rfl⟩, hb2⟩; have HB2 := Lib.hid (HB1.out.trans (hb2.mono HB1.out.size)); have hat1 := HAT.out w2 HB2.out; clear HAT hb2)
              | (go_at_call 36; refine hat1.mono ?_; clear hat1; rintro e w3 ⟨v, N, rfl, hb3⟩; have hbp3 := HBP.out.later (HB2.out.trans (hb3.mono HB2.out.size));  have HBP3 := Lib.hid hbp3; clear hb3 hbp3))
            exact ⟨⟨k + 1, m, A, n, c, by omega, by go_num, HBP3.out.next HSY.out⟩, by simp [intOf]; omega⟩
        · have hk4 : k = 0 ∨ k = 1 ∨ k = 2 ∨ k = 3 ∨ k = 4 := by omega
          rcases hk4 with rfl | rfl | rfl | rfl | rfl
          · have HSY := Lib.hid (show ∀ μ, menuB μ = true → textM μ = text → Reads μ (0 + 1) m from fun μ h1 h2 => by
                obtain ⟨hl, hn⟩ := HMU.out μ h1 h2
                exact reads_skip (HBP.out.says μ h1 h2) (.inl rfl))
            go_wp2_with (first
              | (go_at_call 35; refine hct1.mono ?_; clear hct1; rintro e w1 ⟨⟨b1, rfl⟩, hb1⟩; have HB1 := Lib.hid hb1; have hct2 := HC2.out w1 hb1; clear HC2 hb1)
              | (go_at_call 35; refine hct2.mono ?_; clear hct2; rintro e w2 ⟨⟨b2, rfl⟩, hb2⟩; have HB2 := Lib.hid (HB1.out.trans (hb2.mono HB1.out.size)); have hat1 := HAT.out w2 HB2.out; clear HAT hb2)
              | (go_at_call 36; refine hat1.mono ?_; clear hat1; rintro e w3 ⟨v, N, rfl, hb3⟩; have hbp3 := HBP.out.later (HB2.out.trans (hb3.mono HB2.out.size));  have HBP3 := Lib.hid hbp3; clear hb3 hbp3))
            exact ⟨⟨0 + 1, m, A, n, c, by omega, rfl, HBP3.out.next HSY.out⟩, by simp [intOf]; omega⟩
          · go_wp2_with (first
              | (go_at_call 35; refine hct1.mono ?_; clear hct1; rintro e w1 ⟨⟨b1, rfl⟩, hb1⟩; have HB1 := Lib.hid hb1; have hct2 := HC2.out w1 hb1; clear HC2 hb1)
              | (go_at_call 35; refine hct2.mono ?_; clear hct2; rintro e w2 ⟨⟨b2, rfl⟩, hb2⟩; have HB2 := Lib.hid (HB1.out.trans (hb2.mono HB1.out.size)); have hat1 := HAT.out w2 HB2.out; clear HAT hb2)
              | (go_at_call 36; refine hat1.mono ?_; clear hat1; rintro e w3 ⟨v, N, rfl, hb3⟩; have hbp3 := HBP.out.later (HB2.out.trans (hb3.mono HB2.out.size)); obtain ⟨⟨n0, n1, n2, n3⟩, ⟨m0, m1, m2, m3, m4⟩, mf⟩ := hbp3.cells; have mf0 := mf 0; have mf1 := mf 1; have mf2 := mf 2; have mf3 := mf 3; have mf4 := mf 4; clear mf; have HBP3 := Lib.hid hbp3; clear hb3 hbp3))
            have hq := HBP3.out.set_ (j := 0) (v := v) (m' := ⟨v, m.def_, m.next, m.trial, m.gens⟩) rfl rfl (fun μ h1 h2 => by
              have hr := HBP3.out.says μ h1 h2
              have e1 := line_num h1 (HMU.out μ h1 h2).1 (by decide) (by decide)
              have e3 : v = μ.last := by
                exact absurd e1 (HV.out _)
              have := reads_num hr (v := v) (by decide) (by decide) (by simpa using e3)
              simpa using this)
            exact ⟨⟨2, _, A, n, c, by omega, rfl, hq⟩, by simp [intOf]; omega⟩
          · go_wp2_with (first
              | (go_at_call 35; refine hct1.mono ?_; clear hct1; rintro e w1 ⟨⟨b1, rfl⟩, hb1⟩; have HB1 := Lib.hid hb1; have hct2 := HC2.out w1 hb1; clear HC2 hb1)
              | (go_at_call 35; refine hct2.mono ?_; clear hct2; rintro e w2 ⟨⟨b2, rfl⟩, hb2⟩; have HB2 := Lib.hid (HB1.out.trans (hb2.mono HB1.out.size)); have hat1 := HAT.out w2 HB2.out; clear HAT hb2)
              | (go_at_call 36; refine hat1.mono ?_; clear hat1; rintro e w3 ⟨v, N, rfl, hb3⟩; have hbp3 := HBP.out.later (HB2.out.trans (hb3.mono HB2.out.size)); obtain ⟨⟨n0, n1, n2, n3⟩, ⟨m0, m1, m2, m3, m4⟩, mf⟩ := hbp3.cells; have mf0 := mf 0; have mf1 := mf 1; have mf2 := mf 2; have mf3 := mf 3; have mf4 := mf 4; clear mf; have HBP3 := Lib.hid hbp3; clear hb3 hbp3))
            have hq := HBP3.out.set_ (j := 1) (v := v) (m' := ⟨m.last, v, m.next, m.trial, m.gens⟩) rfl rfl (fun μ h1 h2 => by
              have hr := HBP3.out.says μ h1 h2
              have e1 := line_num h1 (HMU.out μ h1 h2).1 (by decide) (by decide)
              have e3 : v = μ.def_ := by
                exact absurd e1 (HV.out _)
              have := reads_num hr (v := v) (by decide) (by decide) (by simpa using e3)
              simpa using this)
            exact ⟨⟨3, _, A, n, c, by omega, rfl, hq⟩, by simp [intOf]; omega⟩
          · go_wp2_with (first
              | (go_at_call 35; refine hct1.mono ?_; clear hct1; rintro e w1 ⟨⟨b1, rfl⟩, hb1⟩; have HB1 := Lib.hid hb1; have hct2 := HC2.out w1 hb1; clear HC2 hb1)
              | (go_at_call 35; refine hct2.mono ?_; clear hct2; rintro e w2 ⟨⟨b2, rfl⟩, hb2⟩; have HB2 := Lib.hid (HB1.out.trans (hb2.mono HB1.out.size)); have hat1 := HAT.out w2 HB2.out; clear HAT hb2)
              | (go_at_call 36; refine hat1.mono ?_; clear hat1; rintro e w3 ⟨v, N, rfl, hb3⟩; have hbp3 := HBP.out.later (HB2.out.trans (hb3.mono HB2.out.size)); obtain ⟨⟨n0, n1, n2, n3⟩, ⟨m0, m1, m2, m3, m4⟩, mf⟩ := hbp3.cells; have mf0 := mf 0; have mf1 := mf 1; have mf2 := mf 2; have mf3 := mf 3; have mf4 := mf 4; clear mf; have HBP3 := Lib.hid hbp3; clear hb3 hbp3))
            have hq := HBP3.out.set_ (j := 2) (v := v) (m' := ⟨m.last, m.def_, v, m.trial, m.gens⟩) rfl rfl (fun μ h1 h2 => by
              have hr := HBP3.out.says μ h1 h2
              have e1 := line_num h1 (HMU.out μ h1 h2).1 (by decide) (by decide)
              have e3 : v = μ.next := by
                exact absurd e1 (HV.out _)
              have := reads_num hr (v := v) (by decide) (by decide) (by simpa using e3)
              simpa using this)
            exact ⟨⟨4, _, A, n, c, by omega, rfl, hq⟩, by simp [intOf]; omega⟩
          · go_wp2_with (first
              | (go_at_call 35; refine hct1.mono ?_; clear hct1; rintro e w1 ⟨⟨b1, rfl⟩, hb1⟩; have HB1 := Lib.hid hb1; have hct2 := HC2.out w1 hb1; clear HC2 hb1)
              | (go_at_call 35; refine hct2.mono ?_; clear hct2; rintro e w2 ⟨⟨b2, rfl⟩, hb2⟩; have HB2 := Lib.hid (HB1.out.trans (hb2.mono HB1.out.size)); have hat1 := HAT.out w2 HB2.out; clear HAT hb2)
              | (go_at_call 36; refine hat1.mono ?_; clear hat1; rintro e w3 ⟨v, N, rfl, hb3⟩; have hbp3 := HBP.out.later (HB2.out.trans (hb3.mono HB2.out.size)); obtain ⟨⟨n0, n1, n2, n3⟩, ⟨m0, m1, m2, m3, m4⟩, mf⟩ := hbp3.cells; have mf0 := mf 0; have mf1 := mf 1; have mf2 := mf 2; have mf3 := mf 3; have mf4 := mf 4; clear mf; have HBP3 := Lib.hid hbp3; clear hb3 hbp3))
            have hq := HBP3.out.set_ (j := 3) (v := v) (m' := ⟨m.last, m.def_, m.next, v, m.gens⟩) rfl rfl (fun μ h1 h2 => by
              have hr := HBP3.out.says μ h1 h2
              have e1 := line_num h1 (HMU.out μ h1 h2).1 (by decide) (by decide)
              have e3 : v = μ.trial := by
                exact absurd e1 (HV.out _)
              have := reads_num hr (v := v) (by decide) (by decide) (by simpa using e3)
              simpa using this)
            exact ⟨⟨5, _, A, n, c, by omega, rfl, hq⟩, by simp [intOf]; omega⟩
    case neg =>
      obtain rfl : k = L := by omega
      have HBP := Lib.hid hbp.out
      have HR := Lib.hid (fun (μ : Menu) (h1 : menuB μ = true) (h2 : textM μ = text) => show m = μ from (hbp.out.says μ h1 h2).end_ (by
        have e : nlines text = menuL μ := by rw [← h2]; exact lines_menu h1
        rw [HL.out, e, menuL_length]))
      have hl := load_menu hbp.out.menu
      have htx := btext_any (own_gens hbp.out.own) (Nat.le_refl _) (fun g hg => by have := hbp.out.paths g hg; omega) (fun hm' => itoa_menu hm' (HT.out.below hbp.out.bel))
      unfold menuV at htx
      clear hbp
      have tle : (ByteArray.mk text.toArray).toList = text := Go.ByteArray.toList_eq _
      have tlx : (ByteArray.mk (textM m).toArray).toList = textM m := Go.ByteArray.toList_eq _
      cases heq : (textM m == text) with
      | false =>
        have HNE := Lib.hid (show ∀ μ, menuB μ = true → textM μ ≠ text from fun μ h1 h2 => by
          have e := HR.out μ h1 h2
          rw [e, h2] at heq
          simp at heq)
        generalize textM m = tx at *
        go_wp2_with (go_at_call 7; refine htx.mono ?_; clear htx; rintro e w2 ⟨rfl, hb2⟩; have hbp3 := HBP.out.later hb2; have hst := store_menu hbp3.res rfl 0 0 0 0 none 0 0; have HBP3 := Lib.hid hbp3; clear hbp3 hb2)
        exact bp_fail (HBP3.out.res.row _) (below_row HBP3.out.bel (Nat.le_refl _) _) HNE.out rfl rfl
      | true =>
        have hte : textM m = text := by simpa using heq
        cases hnil : (text == []) with
        | true =>
          have HNE := Lib.hid (show ∀ μ, menuB μ = true → textM μ ≠ text from fun μ h1 h2 => by
            have h3 := text_ne h1
            rw [h2] at h3
            exact h3 (by simpa using hnil))
          generalize textM m = tx at *
          go_wp2_with (go_at_call 7; refine htx.mono ?_; clear htx; rintro e w2 ⟨rfl, hb2⟩; have hbp3 := HBP.out.later hb2; have hst := store_menu hbp3.res rfl 0 0 0 0 none 0 0; have HBP3 := Lib.hid hbp3; clear hbp3 hb2)
          exact bp_fail (HBP3.out.res.row _) (below_row HBP3.out.bel (Nat.le_refl _) _) HNE.out rfl rfl
        | false =>
          have HTE := Lib.hid hte
          have HMB := Lib.hid (show menuB m = true by
            cases hm' : menuB m with
            | true => rfl
            | false =>
              have e : textM m = [] := by unfold textM; rw [if_neg (by rw [hm']; decide)]
              rw [e] at hte
              rw [← hte] at hnil
              cases hnil)
          generalize htx0 : textM m = tx at *
          have HTX := Lib.hid htx0
          clear htx0
          go_wp2_with (go_at_call 7; refine htx.mono ?_; clear htx; rintro e w2 ⟨rfl, hb2⟩; have hbp3 := HBP.out.later hb2; have hl2 := load_menu hbp3.menu; have hst := store_menu hbp3.res rfl m.last m.def_ m.next m.trial A n c; have HBP3 := Lib.hid hbp3; clear hbp3 hb2)
          refine bodyPost_ret (res_menu2 (t := 2) (u := 3) (g := w.heap.size) rfl rfl (HBP3.out.res.row _) rfl) rfl ⟨below_row HBP3.out.bel (Nat.le_refl _) _, .inl ⟨m, A, n, c, rfl, own_row HBP3.out.own (own_neT HBP3.out.own HBP3.out.res (by decide)) _, HMB.out, by rw [HTX.out]; exact HTE.out⟩⟩
end
end Go.Proofs.YtdhlklidenfbeaaGreatDoor
