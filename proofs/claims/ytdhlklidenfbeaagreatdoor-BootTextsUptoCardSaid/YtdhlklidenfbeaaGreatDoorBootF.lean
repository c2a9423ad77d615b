/- The walks of boot.find, Default, Next, Load, Before. -/
import Derived.Test.YtdhlklidenfbeaaGreatDoorBootS
namespace Go.Proofs.YtdhlklidenfbeaaGreatDoor
open Go.RowKit Go.Sort
set_option linter.unusedVariables false
set_option linter.unusedSimpArgs false

/-- What find tells. -/
def findI (m : Menu) (n : Int) : Int := if findE m n = 0 then (atG m.gens n : Int) else 0

set_option maxRecDepth 100000 in
set_option maxHeartbeats 1000000 in
theorem find_any {w : World} {B : Nat} {A : Option Addr} {n c : Nat} {m : Menu} (h : GensAt w B A n c m.gens) (hB : B ≤ w.heap.size) (hpl : ∀ g ∈ m.gens, g.path.length ≤ 1000000000) (num : Int) :
    Calls Tryz.prog 49 #[menuV m A n c, .int .i64 num] w fun e w' => e = .returned (.tuple #[.int .i64 (findI m num), .int .i64 (findE m num)]) ∧ Below w.heap.size w w' := by
  have hb1 : Below w.heap.size w (w.alloc (.cells #[.int .i64 m.last, .int .i64 m.def_, .int .i64 m.next, .int .i64 m.trial, .slice A n c] 24)) := (Below.refl _ w).alloc (Nat.le_refl _) _
  have hM1 : Blk (w.alloc (.cells #[.int .i64 m.last, .int .i64 m.def_, .int .i64 m.next, .int .i64 m.trial, .slice A n c] 24)) w.heap.size 24 #[.int .i64 m.last, .int .i64 m.def_, .int .i64 m.next, .int .i64 m.trial, .slice A n c] := Blk.new _ _ _
  have hr := right_any (h.below (hb1.mono hB)) (Nat.le_trans hB hb1.size) hpl
  have hat := fun (w2 : World) (hb : Below w.heap.size w w2) => at_any (m := m) (h.below (hb.mono hB)) (Nat.le_trans hB hb.size) num
  have HB1 := Lib.hid hb1
  have HM1 := Lib.hid hM1
  have HLT := Lib.hid hM1.lt
  clear hb1 hM1 h
  unfold menuV at hr hat ⊢
  cases hm : menuB m with
  | false =>
    have H1 := Lib.hid (show findE m num = 66 by unfold findE; rw [if_pos hm])
    have H2 := Lib.hid (show findI m num = 0 by unfold findI; rw [H1.out]; rfl)
    rw [hm] at hr
    clear hm hat
    go_enter Tryz.func49, Tryz.ntmps49
    go_wp2_with (go_at_call 8; refine hr.mono ?_; clear hr; rintro e2 w2 ⟨rfl, hb2⟩)
    go_ret2
    exact ⟨by rw [H1.out, H2.out]; rfl, HB1.out.trans (hb2.mono HB1.out.size)⟩
  | true =>
    rw [hm] at hr
    cases hh : hasB m.gens num with
    | false =>
      have H1 := Lib.hid (show findE m num = 67 by unfold findE; rw [hm, hh]; rfl)
      have H2 := Lib.hid (show findI m num = 0 by unfold findI; rw [H1.out]; rfl)
      rw [atI_miss hh] at hat
      clear hm hh
      go_enter Tryz.func49, Tryz.ntmps49
      go_wp2_with (first
        | (go_at_call 8; refine hr.mono ?_; clear hr; rintro e2 w2 ⟨rfl, hb2⟩; obtain ⟨c0, c1, c2, c3, c4, cf⟩ := menu_facts (HM1.out.below hb2 HLT.out); have hk := hat w2 (HB1.out.trans (hb2.mono HB1.out.size)))
        | (go_at_call 30; refine hk.mono ?_; clear hk; rintro e3 w3 ⟨rfl, hb3⟩))
      go_ret2
      exact ⟨by rw [H1.out, H2.out]; rfl, (HB1.out.trans (hb2.mono HB1.out.size)).trans (hb3.mono (HB1.out.trans (hb2.mono HB1.out.size)).size)⟩
    | true =>
      have H1 := Lib.hid (show findE m num = 0 by unfold findE; rw [hm, hh]; rfl)
      have H2 := Lib.hid (show findI m num = (atG m.gens num : Int) by unfold findI; rw [if_pos H1.out])
      rw [atI_hit hh] at hat
      clear hm hh
      go_enter Tryz.func49, Tryz.ntmps49
      go_wp2_with (first
        | (go_at_call 8; refine hr.mono ?_; clear hr; rintro e2 w2 ⟨rfl, hb2⟩; obtain ⟨c0, c1, c2, c3, c4, cf⟩ := menu_facts (HM1.out.below hb2 HLT.out); have hk := hat w2 (HB1.out.trans (hb2.mono HB1.out.size)))
        | (go_at_call 30; refine hk.mono ?_; clear hk; rintro e3 w3 ⟨rfl, hb3⟩))
      go_ret2
      exact ⟨by rw [H1.out, H2.out]; rfl, (HB1.out.trans (hb2.mono HB1.out.size)).trans (hb3.mono (HB1.out.trans (hb2.mono HB1.out.size)).size)⟩

/-- A menu that a call gives, its generations in memory of their own. -/
def MenuGot (w w' : World) (m : Menu) (v : Value) : Prop := ∃ A n c, v = menuV m A n c ∧ w'.ownsRow w.heap.size 61 2 (.slice A n c) n (m.gens.flatMap genCells) ∧ Below w.heap.size w w'
theorem pre2 (m : Menu) (A : Option Addr) (n c : Nat) (w W2 : World) (hW : W2 = (w.alloc (.cells #[.int .i64 m.last, .int .i64 m.def_, .int .i64 m.next, .int .i64 m.trial, .slice A n c] 24)).alloc (.cells #[.int .i64 0, .int .i64 0, .int .i64 0, .int .i64 0, .slice none 0 0] 24)) :
    Below w.heap.size w W2 ∧ W2.heap.size = w.heap.size + 1 + 1 ∧ Blk W2 w.heap.size 24 #[.int .i64 m.last, .int .i64 m.def_, .int .i64 m.next, .int .i64 m.trial, .slice A n c] ∧ Blk W2 (w.heap.size + 1) 24 #[.int .i64 0, .int .i64 0, .int .i64 0, .int .i64 0, .slice none 0 0] := by
  subst hW
  refine ⟨((Below.refl _ w).alloc (Nat.le_refl _) _).alloc (by simp) _, by simp, (Blk.new _ _ _).alloc _, ?_⟩
  have := Blk.new (w.alloc (.cells #[.int .i64 m.last, .int .i64 m.def_, .int .i64 m.next, .int .i64 m.trial, .slice A n c] 24)) 24 #[.int .i64 0, .int .i64 0, .int .i64 0, .int .i64 0, .slice none 0 0]
  rwa [World.size_alloc] at this

theorem own_mono {w : World} {base base' : Nat} {e : TypeId} {size : Nat} {v : Value} {n : Nat} {xs : List Value} (h : w.ownsRow base e size v n xs) (hb : base' ≤ base) : w.ownsRow base' e size v n xs := by
  refine ⟨h.1, ?_⟩
  rcases h.2 with h2 | ⟨g, cap, cur, e1, e2, e3⟩
  · exact .inl h2
  · exact .inr ⟨g, cap, cur, e1, Nat.le_trans hb e2, e3⟩
theorem own_ne {w3 w4 : World} {A : Option Addr} {n c : Nat} {xs : List Value} (h : w4.ownsRow w3.heap.size 61 2 (.slice A n c) n xs) {k : Nat} (hk : k < w3.heap.size) : (Value.slice A n c).ownBlock ≠ some k := fun e => by
  have := (h.lt k e).1
  omega

section
attribute [local go_sem ↓] load_menu_mark store_menu_mark

/-- What a refused deed leaves. -/
theorem refused_any {w w3 : World} (hb : Below w.heap.size w w3) (hR : Blk w3 (w.heap.size + 1) 24 #[.int .i64 0, .int .i64 0, .int .i64 0, .int .i64 0, .slice none 0 0]) :
    MenuGot w (w3.setRow (w.heap.size + 1) #[.int .i64 0, .int .i64 0, .int .i64 0, .int .i64 0, .slice none 0 0]) zeroM (menuV zeroM none 0 0) :=
  ⟨none, 0, 0, rfl, World.ownsRow_nil _ _ _ _, below_row hb (by omega) _⟩

set_option maxRecDepth 100000 in
set_option maxHeartbeats 1000000 in
theorem default_any {w : World} {B : Nat} {A : Option Addr} {n c : Nat} {m : Menu} (h : GensAt w B A n c m.gens) (hB : B ≤ w.heap.size) (hpl : ∀ g ∈ m.gens, g.path.length ≤ 1000000000) (hn : n ≤ 1000000000) (num : Int) :
    Calls Tryz.prog 22 #[menuV m A n c, .int .i64 num] w fun e w' => ∃ v, e = .returned (.tuple #[v, .int .i64 (defaultM m num).err]) ∧ MenuGot w w' (defaultM m num).menu v := by
  obtain ⟨W2, hW2⟩ : ∃ W2, W2 = (w.alloc (.cells #[.int .i64 m.last, .int .i64 m.def_, .int .i64 m.next, .int .i64 m.trial, .slice A n c] 24)).alloc (.cells #[.int .i64 0, .int .i64 0, .int .i64 0, .int .i64 0, .slice none 0 0] 24) := ⟨_, rfl⟩
  obtain ⟨hb2, hz2, hM2, hR2⟩ := pre2 m A n c w W2 hW2
  have hf := find_any (h.below (hb2.mono hB)) (Nat.le_trans hB hb2.size) hpl num
  have hown := fun (w3 : World) (hb : Below w.heap.size w w3) => own_any (m := m) (h.below (hb.mono hB)) (Nat.le_trans hB hb.size) hn
  have hl2 := load_menu hM2
  have H := Lib.hid (And.intro hb2 (And.intro hz2 (And.intro hM2 hR2)))
  clear hb2 hz2 hM2 hR2 h
  rw [hW2] at hf hl2
  unfold menuV at hf hown ⊢
  by_cases he : findE m num = 0
  case neg =>
    have H1 := Lib.hid (show defaultM m num = refuse (findE m num) by unfold defaultM; rw [if_pos he])
    have hne : (findE m num != 0) = true := by simpa using he
    generalize findE m num = e at *
    clear hown he
    go_enter Tryz.func22, Tryz.ntmps22
    go_wp2_with (go_at_call 49; refine hf.mono ?_; clear hf; rintro e2 w3 ⟨rfl, hb3⟩; rw [← hW2] at hb3; have hR3 := H.out.2.2.2.below hb3 H.out.2.2.2.lt; have hst := store_menu hR3 rfl 0 0 0 0 none 0 0)
    refine bodyPost_ret (res_menu2 (t := 4) (u := 5) (g := w.heap.size + 1) rfl rfl (hR3.row _) rfl) rfl ⟨menuV zeroM none 0 0, by rw [H1.out]; rfl, ?_⟩
    rw [H1.out]
    exact refused_any (H.out.1.trans (hb3.mono H.out.1.size)) hR3
  case pos =>
    have H1 := Lib.hid (show defaultM m num = ⟨0, { m with def_ := num, next := 0, trial := 0 }⟩ by unfold defaultM; rw [if_neg (by rw [he]; decide)])
    rw [he] at hf
    clear he
    go_enter Tryz.func22, Tryz.ntmps22
    go_wp2_with (first
      | (go_at_call 49; refine hf.mono ?_; clear hf; rintro e2 w3 ⟨rfl, hb3⟩; rw [← hW2] at hb3; have HW3 := H.out.1.trans (hb3.mono H.out.1.size); have hM3 := H.out.2.2.1.below hb3 H.out.2.2.1.lt; have hR3 := H.out.2.2.2.below hb3 H.out.2.2.2.lt; have hl3 := load_menu hM3; have ho := hown w3 HW3)
      | (go_at_call 48; refine ho.mono ?_; clear ho; rintro e4 w4 ⟨A4, k4, rfl, ho4, hb4⟩; have hM4 := hM3.below hb4 hM3.lt; have hR4 := hR3.below hb4 hR3.lt; have hst := store_menu hM4 rfl m.last m.def_ m.next m.trial A4 n k4; have hM5 := hM4.row #[.int .i64 m.last, .int .i64 m.def_, .int .i64 m.next, .int .i64 m.trial, .slice A4 n k4]; obtain ⟨m0, m1, m2, m3, m4, mf⟩ := menu_facts hM5; have hM8 := ((hM5.set_ 1 (.int .i64 num)).set_ 2 (.int .i64 0)).set_ 3 (.int .i64 0); simp only [List.setIfInBounds_toArray, List.set_cons_zero, List.set_cons_succ] at hM8; have hl8 := load_menu hM8; have hR8 := (((hR4.row_far (g' := w.heap.size) (by omega) #[.int .i64 m.last, .int .i64 m.def_, .int .i64 m.next, .int .i64 m.trial, .slice A4 n k4]).far (p := ⟨w.heap.size, 1, none⟩) (by simp) (.int .i64 num)).far (p := ⟨w.heap.size, 2, none⟩) (by simp) (.int .i64 0)).far (p := ⟨w.heap.size, 3, none⟩) (by simp) (.int .i64 0); have hst2 := store_menu hR8 rfl m.last num 0 0 A4 n k4))
    refine bodyPost_ret (res_menu2 (t := 4) (u := 5) (g := w.heap.size + 1) rfl rfl (hR8.row _) rfl) rfl ⟨menuV { m with def_ := num, next := 0, trial := 0 } A4 n k4, by rw [H1.out]; rfl, ?_⟩
    rw [H1.out]
    have n0 := own_ne ho4 hM3.lt
    have n1 := own_ne ho4 hR3.lt
    refine ⟨A4, n, k4, rfl, ?_, ?_⟩
    · exact own_row (own_set (own_set (own_set (own_row (own_mono ho4 HW3.size) n0 _) n0 _) n0 _) n0 _) n1 _
    · exact below_row ((((below_row (HW3.trans (hb4.mono HW3.size)) (Nat.le_refl _) _).setCell (Nat.le_refl _) _).setCell (Nat.le_refl _) _).setCell (Nat.le_refl _) _) (by omega) _
set_option maxRecDepth 100000 in
set_option maxHeartbeats 1000000 in
theorem next_any {w : World} {B : Nat} {A : Option Addr} {n c : Nat} {m : Menu} (h : GensAt w B A n c m.gens) (hB : B ≤ w.heap.size) (hpl : ∀ g ∈ m.gens, g.path.length ≤ 1000000000) (hn : n ≤ 1000000000) (num : Int) :
    Calls Tryz.prog 23 #[menuV m A n c, .int .i64 num] w fun e w' => ∃ v, e = .returned (.tuple #[v, .int .i64 (nextM m num).err]) ∧ MenuGot w w' (nextM m num).menu v := by
  obtain ⟨W2, hW2⟩ : ∃ W2, W2 = (w.alloc (.cells #[.int .i64 m.last, .int .i64 m.def_, .int .i64 m.next, .int .i64 m.trial, .slice A n c] 24)).alloc (.cells #[.int .i64 0, .int .i64 0, .int .i64 0, .int .i64 0, .slice none 0 0] 24) := ⟨_, rfl⟩
  obtain ⟨hb2, hz2, hM2, hR2⟩ := pre2 m A n c w W2 hW2
  have hf := find_any (h.below (hb2.mono hB)) (Nat.le_trans hB hb2.size) hpl num
  have hown := fun (w3 : World) (hb : Below w.heap.size w w3) => own_any (m := m) (h.below (hb.mono hB)) (Nat.le_trans hB hb.size) hn
  have hl2 := load_menu hM2
  have H := Lib.hid (And.intro hb2 (And.intro hz2 (And.intro hM2 hR2)))
  clear hb2 hz2 hM2 hR2 h
  rw [hW2] at hf hl2
  unfold menuV at hf hown ⊢
  by_cases he : findE m num = 0
  case neg =>
    have H1 := Lib.hid (show nextM m num = refuse (findE m num) by unfold nextM; rw [if_pos he])
    have hne : (findE m num != 0) = true := by simpa using he
    generalize findE m num = e at *
    clear hown he
    go_enter Tryz.func23, Tryz.ntmps23
    go_wp2_with (go_at_call 49; refine hf.mono ?_; clear hf; rintro e2 w3 ⟨rfl, hb3⟩; rw [← hW2] at hb3; have hR3 := H.out.2.2.2.below hb3 H.out.2.2.2.lt; have hst := store_menu hR3 rfl 0 0 0 0 none 0 0)
    refine bodyPost_ret (res_menu2 (t := 4) (u := 5) (g := w.heap.size + 1) rfl rfl (hR3.row _) rfl) rfl ⟨menuV zeroM none 0 0, by rw [H1.out]; rfl, ?_⟩
    rw [H1.out]
    exact refused_any (H.out.1.trans (hb3.mono H.out.1.size)) hR3
  case pos =>
    have H1 := Lib.hid (show nextM m num = ⟨0, { m with next := num }⟩ by unfold nextM; rw [if_neg (by rw [he]; decide)])
    rw [he] at hf
    clear he
    go_enter Tryz.func23, Tryz.ntmps23
    go_wp2_with (first
      | (go_at_call 49; refine hf.mono ?_; clear hf; rintro e2 w3 ⟨rfl, hb3⟩; rw [← hW2] at hb3; have HW3 := H.out.1.trans (hb3.mono H.out.1.size); have hM3 := H.out.2.2.1.below hb3 H.out.2.2.1.lt; have hR3 := H.out.2.2.2.below hb3 H.out.2.2.2.lt; have hl3 := load_menu hM3; have ho := hown w3 HW3)
      | (go_at_call 48; refine ho.mono ?_; clear ho; rintro e4 w4 ⟨A4, k4, rfl, ho4, hb4⟩; have hM4 := hM3.below hb4 hM3.lt; have hR4 := hR3.below hb4 hR3.lt; have hst := store_menu hM4 rfl m.last m.def_ m.next m.trial A4 n k4; have hM5 := hM4.row #[.int .i64 m.last, .int .i64 m.def_, .int .i64 m.next, .int .i64 m.trial, .slice A4 n k4]; obtain ⟨m0, m1, m2, m3, m4, mf⟩ := menu_facts hM5; have hM8 := hM5.set_ 2 (.int .i64 num); simp only [List.setIfInBounds_toArray, List.set_cons_zero, List.set_cons_succ] at hM8; have hl8 := load_menu hM8; have hR8 := (hR4.row_far (g' := w.heap.size) (by omega) #[.int .i64 m.last, .int .i64 m.def_, .int .i64 m.next, .int .i64 m.trial, .slice A4 n k4]).far (p := ⟨w.heap.size, 2, none⟩) (by simp) (.int .i64 num); have hst2 := store_menu hR8 rfl m.last m.def_ num m.trial A4 n k4))
    refine bodyPost_ret (res_menu2 (t := 4) (u := 5) (g := w.heap.size + 1) rfl rfl (hR8.row _) rfl) rfl ⟨menuV { m with next := num } A4 n k4, by rw [H1.out]; rfl, ?_⟩
    rw [H1.out]
    have n0 := own_ne ho4 hM3.lt
    have n1 := own_ne ho4 hR3.lt
    refine ⟨A4, n, k4, rfl, ?_, ?_⟩
    · exact own_row (own_set (own_row (own_mono ho4 HW3.size) n0 _) n0 _) n1 _
    · exact below_row ((below_row (HW3.trans (hb4.mono HW3.size)) (Nat.le_refl _) _).setCell (Nat.le_refl _) _) (by omega) _
set_option maxRecDepth 100000 in
set_option maxHeartbeats 1000000 in
theorem load_any {w : World} {B : Nat} {A : Option Addr} {n c : Nat} {m : Menu} (h : GensAt w B A n c m.gens) (hB : B ≤ w.heap.size) (hn : n ≤ 1000000000) :
    Calls Tryz.prog 24 #[menuV m A n c] w fun e w' => ∃ v, e = .returned (.tuple #[v, .int .i64 (loadN m), .bool (loadB m)]) ∧ MenuGot w w' (loadM m) v := by
  obtain ⟨W2, hW2⟩ : ∃ W2, W2 = (w.alloc (.cells #[.int .i64 m.last, .int .i64 m.def_, .int .i64 m.next, .int .i64 m.trial, .slice A n c] 24)).alloc (.cells #[.int .i64 0, .int .i64 0, .int .i64 0, .int .i64 0, .slice none 0 0] 24) := ⟨_, rfl⟩
  obtain ⟨hb2, hz2, hM2, hR2⟩ := pre2 m A n c w W2 hW2
  have hown := own_any (m := m) (h.below (hb2.mono hB)) (Nat.le_trans hB hb2.size) hn
  have hl2 := load_menu hM2
  have H := Lib.hid (And.intro hb2 (And.intro hz2 (And.intro hM2 hR2)))
  clear hb2 hz2 hM2 hR2 h
  rw [hW2] at hown hl2
  unfold menuV at hown ⊢
  by_cases he : m.next = 0
  case neg =>
    have H1 := Lib.hid (show loadM m = { m with trial := m.next, next := 0 } ∧ loadN m = m.next ∧ loadB m = true from ⟨by unfold loadM; rw [if_pos he], by unfold loadN; rw [if_pos he], by unfold loadB; exact decide_eq_true he⟩)
    have hne : (m.next != 0) = true := by simpa using he
    clear he
    go_enter Tryz.func24, Tryz.ntmps24
    go_wp2_with (go_at_call 48; refine hown.mono ?_; clear hown; rintro e4 w4 ⟨A4, k4, rfl, ho4, hb4⟩; rw [← hW2] at hb4 ho4; have hM4 := H.out.2.2.1.below hb4 H.out.2.2.1.lt; have hR4 := H.out.2.2.2.below hb4 H.out.2.2.2.lt; have hst := store_menu hM4 rfl m.last m.def_ m.next m.trial A4 n k4; have hM5 := hM4.row #[.int .i64 m.last, .int .i64 m.def_, .int .i64 m.next, .int .i64 m.trial, .slice A4 n k4]; obtain ⟨m0, m1, m2, m3, m4, mf⟩ := menu_facts hM5; have hM8 := (hM5.set_ 3 (.int .i64 m.next)).set_ 2 (.int .i64 0); simp only [List.setIfInBounds_toArray, List.set_cons_zero, List.set_cons_succ] at hM8; have hl8 := load_menu hM8.drew; have hR8 := ((hR4.row_far (g' := w.heap.size) (by omega) #[.int .i64 m.last, .int .i64 m.def_, .int .i64 m.next, .int .i64 m.trial, .slice A4 n k4]).far (p := ⟨w.heap.size, 3, none⟩) (by simp) (.int .i64 m.next)).far (p := ⟨w.heap.size, 2, none⟩) (by simp) (.int .i64 0); have hst2 := store_menu hR8.drew rfl m.last m.def_ 0 m.next A4 n k4)
    have hc9 := (hM8.drew.row_far (g' := w.heap.size + 1) (by omega) #[.int .i64 m.last, .int .i64 m.def_, .int .i64 0, .int .i64 m.next, .slice A4 n k4]).cell 3
    have hc8 := hM8.cell 3
    simp only [List.getElem?_toArray, List.getElem?_cons_succ, List.getElem?_cons_zero] at hc9 hc8
    go_region
    go_wp2_with (fail)
    refine bodyPost_ret (res_menu3 (t := 2) (u := 3) (v := 4) (g := w.heap.size + 1) rfl rfl (hR8.drew.row _) rfl) rfl ⟨menuV { m with trial := m.next, next := 0 } A4 n k4, by rw [H1.out.2.1, H1.out.2.2]; rfl, ?_⟩
    rw [H1.out.1]
    have n0 := own_ne ho4 H.out.2.2.1.lt
    have n1 := own_ne ho4 H.out.2.2.2.lt
    refine ⟨A4, n, k4, rfl, ?_, ?_⟩
    · exact own_row (w := (World.setCell _ _ _).drew) (own_set (own_set (own_row (own_mono ho4 H.out.1.size) n0 _) n0 _) n0 _) n1 _
    · exact below_row (((below_row (H.out.1.trans (hb4.mono H.out.1.size)) (Nat.le_refl _) _).setCell (Nat.le_refl _) _).setCell (Nat.le_refl _) _).drew (by omega) _
  case pos =>
    have H1 := Lib.hid (show loadM m = { m with trial := 0 } ∧ loadN m = m.def_ ∧ loadB m = false from ⟨by unfold loadM; rw [if_neg (by rw [he]; decide)], by unfold loadN; rw [if_neg (by rw [he]; decide)], by unfold loadB; exact decide_eq_false (by rw [he]; decide)⟩)
    have hne : (m.next != 0) = false := by simpa using he
    clear he
    go_enter Tryz.func24, Tryz.ntmps24
    go_wp2_with (go_at_call 48; refine hown.mono ?_; clear hown; rintro e4 w4 ⟨A4, k4, rfl, ho4, hb4⟩; rw [← hW2] at hb4 ho4; have hM4 := H.out.2.2.1.below hb4 H.out.2.2.1.lt; have hR4 := H.out.2.2.2.below hb4 H.out.2.2.2.lt; have hst := store_menu hM4 rfl m.last m.def_ m.next m.trial A4 n k4; have hM5 := hM4.row #[.int .i64 m.last, .int .i64 m.def_, .int .i64 m.next, .int .i64 m.trial, .slice A4 n k4]; obtain ⟨m0, m1, m2, m3, m4, mf⟩ := menu_facts hM5; have hM8 := hM5.set_ 3 (.int .i64 0); simp only [List.setIfInBounds_toArray, List.set_cons_zero, List.set_cons_succ] at hM8; have hl8 := load_menu hM8.drew; have hR8 := (hR4.row_far (g' := w.heap.size) (by omega) #[.int .i64 m.last, .int .i64 m.def_, .int .i64 m.next, .int .i64 m.trial, .slice A4 n k4]).far (p := ⟨w.heap.size, 3, none⟩) (by simp) (.int .i64 0); have hst2 := store_menu hR8.drew rfl m.last m.def_ m.next 0 A4 n k4)
    have hc9 := (hM8.drew.row_far (g' := w.heap.size + 1) (by omega) #[.int .i64 m.last, .int .i64 m.def_, .int .i64 m.next, .int .i64 0, .slice A4 n k4]).cell 1
    have hc8 := hM8.cell 1
    simp only [List.getElem?_toArray, List.getElem?_cons_succ, List.getElem?_cons_zero] at hc9 hc8
    go_region
    go_wp2_with (fail)
    refine bodyPost_ret (res_menu3 (t := 2) (u := 3) (v := 4) (g := w.heap.size + 1) rfl rfl (hR8.drew.row _) rfl) rfl ⟨menuV { m with trial := 0 } A4 n k4, by rw [H1.out.2.1, H1.out.2.2]; rfl, ?_⟩
    rw [H1.out.1]
    have n0 := own_ne ho4 H.out.2.2.1.lt
    have n1 := own_ne ho4 H.out.2.2.2.lt
    refine ⟨A4, n, k4, rfl, ?_, ?_⟩
    · exact own_row (w := (World.setCell _ _ _).drew) (own_set (own_row (own_mono ho4 H.out.1.size) n0 _) n0 _) n1 _
    · exact below_row ((below_row (H.out.1.trans (hb4.mono H.out.1.size)) (Nat.le_refl _) _).setCell (Nat.le_refl _) _).drew (by omega) _
end
end Go.Proofs.YtdhlklidenfbeaaGreatDoor
