/- The walk of boot.Right. -/
import Derived.Test.YtdhlklidenfbeaaGreatDoorBootM
namespace Go.Proofs.YtdhlklidenfbeaaGreatDoor
open Go.RowKit Go.Sort
set_option linter.unusedVariables false
set_option linter.unusedSimpArgs false

/-- The cells of a menu. -/
def menuCells (m : Menu) (A : Option Addr) (n c : Nat) : Array Value := #[.int .i64 m.last, .int .i64 m.def_, .int .i64 m.next, .int .i64 m.trial, .slice A n c]
theorem menu_facts {w : World} {g : Nat} {a b c d : Int} {s : Value} (h : Blk w g 24 #[.int .i64 a, .int .i64 b, .int .i64 c, .int .i64 d, s]) :
    w.cell? ⟨g, 0, none⟩ = some (.int .i64 a) ∧ w.cell? ⟨g, 1, none⟩ = some (.int .i64 b) ∧ w.cell? ⟨g, 2, none⟩ = some (.int .i64 c) ∧ w.cell? ⟨g, 3, none⟩ = some (.int .i64 d) ∧ w.cell? ⟨g, 4, none⟩ = some s ∧ (∀ i, w.frozen? ⟨g, i, none⟩ = false) :=
  ⟨h.cell 0, h.cell 1, h.cell 2, h.cell 3, h.cell 4, h.frozen⟩
theorem atI_hit {l : List Gen} {n : Int} (h : hasB l n = true) : atI l n = (atG l n : Int) := by unfold atI; rw [if_pos h]
theorem atI_miss {l : List Gen} {n : Int} (h : hasB l n = false) : atI l n = -1 := by unfold atI; rw [if_neg (by rw [h]; decide)]
theorem refB_cases (m : Menu) (n : Int) : (n = 0 ∧ refB m n = true) ∨ (n ≠ 0 ∧ hasB m.gens n = true ∧ refB m n = true) ∨ (n ≠ 0 ∧ hasB m.gens n = false ∧ refB m n = false) := by
  unfold refB
  by_cases h0 : n = 0
  · exact .inl ⟨h0, by simp [h0]⟩
  · cases h : hasB m.gens n with
    | true => exact .inr (.inl ⟨h0, rfl, by simp⟩)
    | false => exact .inr (.inr ⟨h0, rfl, by simp [h0]⟩)
theorem genB_false1 {m : Menu} {k : Nat} (h : k < m.gens.length) (h1 : m.gens[k].num ≤ prevN m.gens k) : genB m k = false := by
  rw [genB_at m k h, decide_eq_false (by omega), Bool.and_false]
theorem genB_false2 {m : Menu} {k : Nat} (h : k < m.gens.length) (h1 : m.last < m.gens[k].num) : genB m k = false := by
  rw [genB_at m k h, decide_eq_false (by omega), Bool.and_false]
theorem genB_false3 {m : Menu} {k : Nat} (h : k < m.gens.length) (h1 : pathB m.gens[k].path = false) : genB m k = false := by
  rw [genB_at m k h, h1, Bool.false_and]
theorem genB_true {m : Menu} {k : Nat} (h : k < m.gens.length) (h1 : prevN m.gens k < m.gens[k].num) (h2 : m.gens[k].num ≤ m.last) (h3 : pathB m.gens[k].path = true) : genB m k = true := by
  rw [genB_at m k h, h3, decide_eq_true ⟨h1, h2⟩]
  rfl

theorem index3_0 (x y z : Int) (w : World) : Sem.run Tryz.prog (Instr.index 63 (.agg #[.int .i64 x, .int .i64 y, .int .i64 z]) (.int .i64 0)) w = .ok (.int .i64 x) w := by kernel_rfl
theorem index3_1 (x y z : Int) (w : World) : Sem.run Tryz.prog (Instr.index 63 (.agg #[.int .i64 x, .int .i64 y, .int .i64 z]) (.int .i64 1)) w = .ok (.int .i64 y) w := by kernel_rfl
theorem index3_2 (x y z : Int) (w : World) : Sem.run Tryz.prog (Instr.index 63 (.agg #[.int .i64 x, .int .i64 y, .int .i64 z]) (.int .i64 2)) w = .ok (.int .i64 z) w := by kernel_rfl
def at3 (j : Nat) : Value := .int .i64 (j : Int)
section
attribute [local go_sem ↓] index3_0 index3_1 index3_2
set_option maxRecDepth 100000 in
set_option maxHeartbeats 4000000 in
theorem right_any {w : World} {B : Nat} {A : Option Addr} {n c : Nat} {m : Menu} (h : GensAt w B A n c m.gens) (hB : B ≤ w.heap.size) (hpl : ∀ g ∈ m.gens, g.path.length ≤ 1000000000) :
    Calls Tryz.prog 8 #[menuV m A n c] w fun e w' => e = .returned (.bool (menuB m)) ∧ Below w.heap.size w w' := by
  have hlen := h.len
  have hn62 : n ≤ 9223372036854775807 := by have := h.slc.le; have := h.slc.cmax; unfold maxLen at this; omega
  obtain ⟨W1, hW1⟩ : ∃ W1, W1 = w.alloc (.cells #[.int .i64 m.last, .int .i64 m.def_, .int .i64 m.next, .int .i64 m.trial, .slice A n c] 24) := ⟨_, rfl⟩
  have hb1 : Below w.heap.size w W1 := by rw [hW1]; exact (Below.refl _ w).alloc (Nat.le_refl _) _
  have hz1 : W1.heap.size = w.heap.size + 1 := by rw [hW1]; simp
  have hM1 : Blk W1 w.heap.size 24 #[.int .i64 m.last, .int .i64 m.def_, .int .i64 m.next, .int .i64 m.trial, .slice A n c] := by rw [hW1]; exact Blk.new _ _ _
  by_cases hhead : 0 ≤ m.last ∧ m.last ≤ 999999 ∧ m.gens.length ≤ 16
  case neg =>
    have HF := Lib.hid (menuB_false_head hhead)
    have hc : m.last < 0 ∨ 999999 < m.last ∨ (¬ m.last < 0 ∧ ¬ 999999 < m.last ∧ 16 < n) := by omega
    clear hhead
    rw [hW1] at hb1
    clear hM1 hz1 hW1 hlen h
    unfold menuV
    rcases hc with hc | hc | ⟨hc1, hc2, hc3⟩
    all_goals
      go_enter Tryz.func8, Tryz.ntmps8
      go_wp2_with (fail)
      go_ret
      exact ⟨by rw [HF.out]; rfl, hb1⟩
  obtain ⟨hl0, hl1, hl2⟩ := hhead
  have hn16 : n ≤ 16 := by omega
  have H := Lib.hid h
  have HPL := Lib.hid hpl
  have HLEN := Lib.hid hlen
  have HB1 := Lib.hid hb1
  have HM1 := Lib.hid hM1
  have HHEAD := Lib.hid (show 0 ≤ m.last ∧ m.last ≤ 999999 ∧ m.gens.length ≤ 16 from ⟨hl0, hl1, hl2⟩)
  clear h hpl hlen hb1 hM1 hl2 hz1
  subst hW1
  unfold menuV
  go_enter Tryz.func8, Tryz.ntmps8
  go_wp2_with (fail)
  go_loopw [3, 25] (fun p i wr => ∃ k : Nat, k ≤ n ∧ i = .int .i64 (k : Int) ∧ p = .int .i64 (prevN m.gens k) ∧ Aside (gensTo m k = true) ∧ Aside (Blk wr w.heap.size 24 #[.int .i64 m.last, .int .i64 m.def_, .int .i64 m.next, .int .i64 m.trial, .slice A n c]) ∧ Aside (Below w.heap.size w wr)) (fun _ i _ => n - (intOf i).toNat)
  case atStart => exact ⟨0, Nat.zero_le _, rfl, rfl, gensTo_zero m, HM1.out, HB1.out⟩
  case round =>
    obtain ⟨k, hk, rfl, rfl, hto, hM, hb⟩ := hrel
    obtain ⟨c0, c1, c2, c3, c4, cf⟩ := menu_facts hM.out
    by_cases hlt : k < n
    · obtain ⟨b, off, rfl, hbB, hl, d0, d1⟩ := (H.out.below (hb.out.mono hB)).at_ hlt
      have hbl : b < wr.heap.size := Nat.lt_of_lt_of_le hbB (Nat.le_trans hB hb.out.size)
      have hbw := (Below.refl wr.heap.size wr).alloc (Nat.le_refl _) (.cells #[.int .i64 m.gens[k].num, .string ⟨m.gens[k].path.toArray⟩] 61)
      have hst := stored_any m.gens[k].path (wr.alloc (.cells #[.int .i64 m.gens[k].num, .string ⟨m.gens[k].path.toArray⟩] 61)) (HPL.out _ (List.getElem_mem hl))
      have HN := Lib.hid (prevN_succ m.gens k hl)
      have HF1 := Lib.hid (fun h1 => menuB_false_gen (m := m) hl (fun _ => genB_false1 hl h1))
      have HF2 := Lib.hid (fun h1 => menuB_false_gen (m := m) hl (fun _ => genB_false2 hl h1))
      have HF3 := Lib.hid (fun h1 => menuB_false_gen (m := m) hl (fun _ => genB_false3 hl h1))
      have HT := Lib.hid (fun h1 h2 h3 => show gensTo m (k + 1) = true by rw [gensTo_succ, hto.out, genB_true hl h1 h2 h3]; rfl)
      have hbA := Lib.hid (hb.out.trans (hbw.mono hb.out.size))
      have hMA := Lib.hid (hM.out.alloc (.cells #[.int .i64 m.gens[k].num, .string ⟨m.gens[k].path.toArray⟩] 61))
      have hMlt := hM.out.lt
      have nb1 : ¬ w.heap.size = wr.heap.size := by omega
      have nb2 : ¬ wr.heap.size = w.heap.size := by omega
      clear hbw
      generalize prevN m.gens k = pv at *
      generalize m.gens[k] = g at *
      by_cases h1 : g.num ≤ pv
      · have HF := Lib.hid (HF1.out h1)
        go_wp2_with (fail)
        go_ret
        exact ⟨by rw [HF.out]; rfl, hbA.out⟩
      by_cases h2 : m.last < g.num
      · have HF := Lib.hid (HF2.out h2)
        go_wp2_with (fail)
        go_ret
        exact ⟨by rw [HF.out]; rfl, hbA.out⟩
      cases h3 : pathB g.path with
      | false =>
        have HF := Lib.hid (HF3.out h3)
        rw [h3] at hst
        go_wp2_with (go_at_call 29; refine hst.mono ?_; clear hst; rintro e2 w2 ⟨rfl, hb2⟩)
        go_ret
        exact ⟨by rw [HF.out]; rfl, hbA.out.trans (hb2.mono hbA.out.size)⟩
      | true =>
        have HT2 := Lib.hid (HT.out (by omega) (by omega) h3)
        rw [h3] at hst
        go_wp2_with (go_at_call 29; refine hst.mono ?_; clear hst; rintro e2 w2 ⟨rfl, hb2⟩; have hg2 : w2.cell? ⟨wr.heap.size, 0, none⟩ = some (.int .i64 g.num) := (hb2.cell (p := ⟨wr.heap.size, 0, none⟩) (by simp)).trans (by simp))
        exact ⟨⟨k + 1, by omega, by go_num, by rw [HN.out], HT2.out, hMA.out.below hb2 (by simp; omega), hbA.out.trans (hb2.mono hbA.out.size)⟩, by simp [intOf]; omega⟩
    · obtain rfl : k = n := by omega
      have HMB := Lib.hid (menuB_of HHEAD.out (by rw [HLEN.out]; exact hto.out))
      clear hto hlt
      go_wp2_with (fail)
      go_loopw [56] (fun i wr => ∃ j : Nat, (j = 0 ∧ i = .int .i64 0 ∨ j = 1 ∧ i = .int .i64 1 ∨ j = 2 ∧ i = .int .i64 2 ∨ j = 3 ∧ i = .int .i64 3) ∧ Aside (1 ≤ j → refB m m.def_ = true) ∧ Aside (2 ≤ j → refB m m.next = true) ∧ Aside (3 ≤ j → refB m m.trial = true) ∧ Aside (Blk wr w.heap.size 24 #[.int .i64 m.last, .int .i64 m.def_, .int .i64 m.next, .int .i64 m.trial, .slice A k c]) ∧ Aside (Below w.heap.size w wr)) (fun i _ => 3 - (intOf i).toNat)
      case atStart => exact ⟨0, .inl ⟨rfl, rfl⟩, fun h => absurd h (by decide), fun h => absurd h (by decide), fun h => absurd h (by decide), hM.out, hb.out⟩
      clear c0 c1 c2 c3 c4 cf hM hb
      case round =>
        obtain ⟨j, hcases, q0, q1, q2, hM, hb⟩ := hrel
        obtain ⟨c0, c1, c2, c3, c4, cf⟩ := menu_facts hM.out
        have hat := fun num => at_any (m := m) (H.out.below (hb.out.mono hB)) (Nat.le_trans hB hb.out.size) num
        have hMlt := hM.out.lt
        unfold menuV at hat
        rcases hcases with ⟨rfl, rfl⟩ | ⟨rfl, rfl⟩ | ⟨rfl, rfl⟩ | ⟨rfl, rfl⟩
        · have ha := hat m.def_
          clear hat
          rcases refB_cases m m.def_ with ⟨e0, e1⟩ | ⟨e0, e1, e2⟩ | ⟨e0, e1, e2⟩
          · have E1 := Lib.hid e1
            have ne : (m.def_ != 0) = false := by rw [e0]; rfl
            clear e1 ha e0
            go_wp2_with (fail)
            exact ⟨⟨1, .inr (.inl ⟨rfl, rfl⟩), fun _ => E1.out, fun h => absurd h (by decide), fun h => absurd h (by decide), hM.out, hb.out⟩, by decide⟩
          · have E1 := Lib.hid e2
            rw [atI_hit e1] at ha
            have ne : (m.def_ != 0) = true := by simpa using e0
            clear e1 e2 e0
            go_wp2_with (go_at_call 30; refine ha.mono ?_; clear ha; rintro e5 w5 ⟨rfl, hb5⟩)
            exact ⟨⟨1, .inr (.inl ⟨rfl, rfl⟩), fun _ => E1.out, fun h => absurd h (by decide), fun h => absurd h (by decide), hM.out.below hb5 hMlt, hb.out.trans (hb5.mono hb.out.size)⟩, by decide⟩
          · have E1 := Lib.hid (show menuB m = false by rw [HMB.out, e2]; rfl)
            rw [atI_miss e1] at ha
            have ne : (m.def_ != 0) = true := by simpa using e0
            clear e1 e2 e0
            go_wp2_with (go_at_call 30; refine ha.mono ?_; clear ha; rintro e5 w5 ⟨rfl, hb5⟩)
            go_ret
            exact ⟨by rw [E1.out]; rfl, hb.out.trans (hb5.mono hb.out.size)⟩
        · have ha := hat m.next
          clear hat
          rcases refB_cases m m.next with ⟨e0, e1⟩ | ⟨e0, e1, e2⟩ | ⟨e0, e1, e2⟩
          · have E1 := Lib.hid e1
            have ne : (m.next != 0) = false := by rw [e0]; rfl
            clear e1 ha e0
            go_wp2_with (fail)
            exact ⟨⟨2, .inr (.inr (.inl ⟨rfl, rfl⟩)), fun _ => q0.out (by decide), fun _ => E1.out, fun h => absurd h (by decide), hM.out, hb.out⟩, by decide⟩
          · have E1 := Lib.hid e2
            rw [atI_hit e1] at ha
            have ne : (m.next != 0) = true := by simpa using e0
            clear e1 e2 e0
            go_wp2_with (go_at_call 30; refine ha.mono ?_; clear ha; rintro e5 w5 ⟨rfl, hb5⟩)
            exact ⟨⟨2, .inr (.inr (.inl ⟨rfl, rfl⟩)), fun _ => q0.out (by decide), fun _ => E1.out, fun h => absurd h (by decide), hM.out.below hb5 hMlt, hb.out.trans (hb5.mono hb.out.size)⟩, by decide⟩
          · have E1 := Lib.hid (show menuB m = false by rw [HMB.out, e2, Bool.and_false, Bool.false_and])
            rw [atI_miss e1] at ha
            have ne : (m.next != 0) = true := by simpa using e0
            clear e1 e2 e0
            go_wp2_with (go_at_call 30; refine ha.mono ?_; clear ha; rintro e5 w5 ⟨rfl, hb5⟩)
            go_ret
            exact ⟨by rw [E1.out]; rfl, hb.out.trans (hb5.mono hb.out.size)⟩
        · have ha := hat m.trial
          clear hat
          rcases refB_cases m m.trial with ⟨e0, e1⟩ | ⟨e0, e1, e2⟩ | ⟨e0, e1, e2⟩
          · have E1 := Lib.hid e1
            have ne : (m.trial != 0) = false := by rw [e0]; rfl
            clear e1 ha e0
            go_wp2_with (fail)
            exact ⟨⟨3, .inr (.inr (.inr ⟨rfl, rfl⟩)), fun _ => q0.out (by decide), fun _ => q1.out (by decide), fun _ => E1.out, hM.out, hb.out⟩, by decide⟩
          · have E1 := Lib.hid e2
            rw [atI_hit e1] at ha
            have ne : (m.trial != 0) = true := by simpa using e0
            clear e1 e2 e0
            go_wp2_with (go_at_call 30; refine ha.mono ?_; clear ha; rintro e5 w5 ⟨rfl, hb5⟩)
            exact ⟨⟨3, .inr (.inr (.inr ⟨rfl, rfl⟩)), fun _ => q0.out (by decide), fun _ => q1.out (by decide), fun _ => E1.out, hM.out.below hb5 hMlt, hb.out.trans (hb5.mono hb.out.size)⟩, by decide⟩
          · have E1 := Lib.hid (show menuB m = false by rw [HMB.out, e2, Bool.and_false])
            rw [atI_miss e1] at ha
            have ne : (m.trial != 0) = true := by simpa using e0
            clear e1 e2 e0
            go_wp2_with (go_at_call 30; refine ha.mono ?_; clear ha; rintro e5 w5 ⟨rfl, hb5⟩)
            go_ret
            exact ⟨by rw [E1.out]; rfl, hb.out.trans (hb5.mono hb.out.size)⟩
        · have E1 := Lib.hid (show menuB m = true by rw [HMB.out, q0.out (by decide), q1.out (by decide), q2.out (by decide)]; rfl)
          clear hat
          go_wp2_with (fail)
          go_ret
          exact ⟨by rw [E1.out]; rfl, hb.out⟩
end
end Go.Proofs.YtdhlklidenfbeaaGreatDoor
