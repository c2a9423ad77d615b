/- The walks of boot.Add and boot.Before. -/
import Derived.Test.YtdhlklidenfbeaaGreatDoorBootF
namespace Go.Proofs.YtdhlklidenfbeaaGreatDoor
open Go.RowKit Go.Sort
set_option linter.unusedVariables false
set_option linter.unusedSimpArgs false

/-- The number that Add tells. -/
def addN (m : Menu) (p : Txt) : Int := if (addM m p).err = 0 then m.last + 1 else 0

theorem add_tail {w5 : World} {M R base n k5 : Nat} {A5 : Option Addr} {m : Menu} {p : Txt} {cs : Array Value} (hM5 : Blk w5 M 24 cs) (hR5 : Blk w5 R 24 #[.int .i64 0, .int .i64 0, .int .i64 0, .int .i64 0, .slice none 0 0]) (hMR : M ≠ R)
    (ho5 : w5.ownsRow base 61 2 (.slice A5 n k5) n (m.gens.flatMap genCells)) (hM : M < base) (hR : R < base) (hn : n ≤ 16) (hbase : base ≤ w5.heap.size) :
    ∃ A8 k8 w8, (Builtin.append_ #[22, 22] 22 #[.slice A5 n k5, .slice (some ⟨w5.heap.size, 0, none⟩) 1 1]).run Tryz.prog
        (((w5.setRow M #[.int .i64 m.last, .int .i64 m.def_, .int .i64 m.next, .int .i64 m.trial, .slice A5 n k5]).setCell ⟨M, 0, none⟩ (.int .i64 (m.last + 1))).alloc (.cells #[.int .i64 (m.last + 1), .string ⟨p.toArray⟩] 61)) = .ok (.slice A8 (n + 1) k8) w8 ∧
      w8.ownsRow base 61 2 (.slice A8 (n + 1) k8) (n + 1) ((m.gens ++ [(⟨m.last + 1, p⟩ : Gen)]).flatMap genCells) ∧
      (∀ a B, Below B a w5 → B ≤ M → B ≤ base → Below B a w8) ∧
      Blk w8 M 24 #[.int .i64 (m.last + 1), .int .i64 m.def_, .int .i64 m.next, .int .i64 m.trial, .slice A5 n k5] ∧ Blk w8 R 24 #[.int .i64 0, .int .i64 0, .int .i64 0, .int .i64 0, .slice none 0 0] := by
  have hlow : ∀ q, (Value.slice A5 n k5).ownBlock = some q → base ≤ q := fun q hq => (ho5.lt q hq).1
  have hnM : (Value.slice A5 n k5).ownBlock ≠ some M := fun e => by have := hlow _ e; omega
  have hnR : (Value.slice A5 n k5).ownBlock ≠ some R := fun e => by have := hlow _ e; omega
  obtain ⟨W7, hW7⟩ : ∃ W7, W7 = (w5.setRow M #[.int .i64 m.last, .int .i64 m.def_, .int .i64 m.next, .int .i64 m.trial, .slice A5 n k5]).setCell ⟨M, 0, none⟩ (.int .i64 (m.last + 1)) := ⟨_, rfl⟩
  have hz7 : W7.heap.size = w5.heap.size := by rw [hW7]; simp [World.setRow, World.setCell]
  have ho7 : W7.ownsRow base 61 2 (.slice A5 n k5) n (m.gens.flatMap genCells) := by rw [hW7]; exact own_set (own_row ho5 hnM _) hnM _
  have hM7 := (hM5.row #[.int .i64 m.last, .int .i64 m.def_, .int .i64 m.next, .int .i64 m.trial, .slice A5 n k5]).set_ 0 (.int .i64 (m.last + 1))
  have hR7 := (hR5.row_far (g' := M) (fun e => hMR e.symm) #[.int .i64 m.last, .int .i64 m.def_, .int .i64 m.next, .int .i64 m.trial, .slice A5 n k5]).far (p := ⟨M, 0, none⟩) (fun e => hMR e.symm) (.int .i64 (m.last + 1))
  simp only [List.setIfInBounds_toArray, List.set_cons_zero, List.set_cons_succ] at hM7
  have hbl7 : ∀ a B, Below B a w5 → B ≤ M → Below B a W7 := fun a B hb hBM => by rw [hW7]; exact (below_row hb hBM _).setCell hBM _
  rw [← hW7] at hM7 hR7 ⊢
  rw [← hz7]
  have hk : GensAt (W7.alloc (.cells #[.int .i64 (m.last + 1), .string ⟨p.toArray⟩] 61)) (W7.heap.size + 1) (some ⟨W7.heap.size, 0, none⟩) 1 1 [⟨m.last + 1, p⟩] := by
    refine ⟨?_, rfl⟩
    exact slc_new W7 61 (0, 0) #[.int .i64 (m.last + 1), .string ⟨p.toArray⟩] (sz := 2) (n := 1) (c := 1) rfl (Nat.le_refl _) (by decide)
  obtain ⟨A8, k8, w8, h1, h2, h3, h4⟩ := append_gens (W7.alloc (.cells #[.int .i64 (m.last + 1), .string ⟨p.toArray⟩] 61)) base _ n m.gens (ho7.alloc _) hk (by omega) (by simp; omega)
  refine ⟨A8, k8, w8, h1, h2, fun a B hb hBM hBb => ?_, (hM7.alloc _).grown h3 (fun e => hnM e.symm), (hR7.alloc _).grown h3 (fun e => hnR e.symm)⟩
  have h5 := (hbl7 a B hb hBM).alloc (by omega) (.cells #[.int .i64 (m.last + 1), .string ⟨p.toArray⟩] 61)
  exact h5.grown h3 (by simp; omega) (fun q hq => by have := hlow q hq; omega)

section
attribute [local go_sem ↓] load_menu_mark store_menu_mark
set_option maxRecDepth 100000 in
set_option maxHeartbeats 2000000 in
theorem add_any {w : World} {B : Nat} {A : Option Addr} {n c : Nat} {m : Menu} (h : GensAt w B A n c m.gens) (hB : B ≤ w.heap.size) (hpl : ∀ g ∈ m.gens, g.path.length ≤ 1000000000) (hn : n ≤ 1000000000) (p : Txt) (hp : p.length ≤ 1000000000) :
    Calls Tryz.prog 21 #[menuV m A n c, .string ⟨p.toArray⟩] w fun e w' => ∃ v, e = .returned (.tuple #[v, .int .i64 (addN m p), .int .i64 (addM m p).err]) ∧ MenuGot w w' (addM m p).menu v := by
  obtain ⟨W2, hW2⟩ : ∃ W2, W2 = (w.alloc (.cells #[.int .i64 m.last, .int .i64 m.def_, .int .i64 m.next, .int .i64 m.trial, .slice A n c] 24)).alloc (.cells #[.int .i64 0, .int .i64 0, .int .i64 0, .int .i64 0, .slice none 0 0] 24) := ⟨_, rfl⟩
  obtain ⟨hb2, hz2, hM2, hR2⟩ := pre2 m A n c w W2 hW2
  have hr := right_any (h.below (hb2.mono hB)) (Nat.le_trans hB hb2.size) hpl
  have hst := fun w3 : World => stored_any p w3 hp
  have hown := fun (w3 : World) (hb : Below w.heap.size w w3) => own_any (m := m) (h.below (hb.mono hB)) (Nat.le_trans hB hb.size) hn
  have hl2 := load_menu hM2
  have H := Lib.hid (And.intro hb2 (And.intro hz2 (And.intro hM2 hR2)))
  have hlen := h.len
  clear hb2 hz2 hM2 hR2 h
  rw [hW2] at hr hl2
  unfold menuV at hr hown ⊢
  cases hm : menuB m with
  | false =>
    have H1 := Lib.hid (show addM m p = refuse 66 by unfold addM; rw [if_pos hm])
    have H2 := Lib.hid (show addN m p = 0 by unfold addN; rw [H1.out]; rfl)
    rw [hm] at hr
    clear hm hown hst
    go_enter Tryz.func21, Tryz.ntmps21
    go_wp2_with (go_at_call 8; refine hr.mono ?_; clear hr; rintro e2 w3 ⟨rfl, hb3⟩; rw [← hW2] at hb3; have hR3 := H.out.2.2.2.below hb3 H.out.2.2.2.lt; have hst := store_menu hR3 rfl 0 0 0 0 none 0 0)
    refine bodyPost_ret (res_menu3 (t := 4) (u := 5) (v := 6) (g := w.heap.size + 1) rfl rfl (hR3.row _) rfl) rfl ⟨menuV zeroM none 0 0, by rw [H1.out, H2.out]; rfl, ?_⟩
    rw [H1.out]
    exact refused_any (H.out.1.trans (hb3.mono H.out.1.size)) hR3
  | true =>
  have hM := (menuB_iff m).1 hm
  have hl0 : 0 ≤ m.last ∧ m.last ≤ 999999 := ⟨hM.head.1, hM.head.2.1⟩
  obtain ⟨hl0, hl1⟩ := hl0
  rw [hm] at hr
  have hn16 : n ≤ 16 := by rw [← hlen]; exact hM.head.2.2
  clear hM
  cases hpb : pathB p with
  | false =>
    have H1 := Lib.hid (show addM m p = refuse 65 by unfold addM; rw [if_neg (by rw [hm]; decide), if_pos hpb])
    have H2 := Lib.hid (show addN m p = 0 by unfold addN; rw [H1.out]; rfl)
    rw [hpb] at hst
    clear hm hown hpb
    go_enter Tryz.func21, Tryz.ntmps21
    go_wp2_with (first
      | (go_at_call 8; refine hr.mono ?_; clear hr; rintro e2 w3 ⟨rfl, hb3⟩; rw [← hW2] at hb3; have hR3 := H.out.2.2.2.below hb3 H.out.2.2.2.lt; have hs3 := hst w3)
      | (go_at_call 29; refine hs3.mono ?_; clear hs3; rintro e3 w4 ⟨rfl, hb4⟩; have hR4 := hR3.below hb4 hR3.lt; have hst4 := store_menu hR4 rfl 0 0 0 0 none 0 0))
    refine bodyPost_ret (res_menu3 (t := 4) (u := 5) (v := 6) (g := w.heap.size + 1) rfl rfl (hR4.row _) rfl) rfl ⟨menuV zeroM none 0 0, by rw [H1.out, H2.out]; rfl, ?_⟩
    rw [H1.out]
    have hb5 := H.out.1.trans (hb3.mono H.out.1.size)
    exact refused_any (hb5.trans (hb4.mono hb5.size)) hR4
  | true =>
  rw [hpb] at hst
  by_cases hfull : m.gens.length = 16 ∨ m.last = 999999
  · have H1 := Lib.hid (show addM m p = refuse 69 by unfold addM; rw [if_neg (by rw [hm]; decide), if_neg (by rw [hpb]; decide), if_pos hfull])
    have H2 := Lib.hid (show addN m p = 0 by unfold addN; rw [H1.out]; rfl)
    have hc : n = 16 ∨ (n ≠ 16 ∧ m.last = 999999) := by omega
    clear hm hown hpb hfull hlen
    rcases hc with rfl | ⟨hc1, hc2⟩
    · go_enter Tryz.func21, Tryz.ntmps21
      go_wp2_with (first
        | (go_at_call 8; refine hr.mono ?_; clear hr; rintro e2 w3 ⟨rfl, hb3⟩; rw [← hW2] at hb3; have hR3 := H.out.2.2.2.below hb3 H.out.2.2.2.lt; have hM3 := H.out.2.2.1.below hb3 H.out.2.2.1.lt; have hs3 := hst w3)
        | (go_at_call 29; refine hs3.mono ?_; clear hs3; rintro e3 w4 ⟨rfl, hb4⟩; have hR4 := hR3.below hb4 hR3.lt; obtain ⟨m0, m1, m2, m3, m4, mf⟩ := menu_facts (hM3.below hb4 hM3.lt); have hst4 := store_menu hR4 rfl 0 0 0 0 none 0 0))
      refine bodyPost_ret (res_menu3 (t := 4) (u := 5) (v := 6) (g := w.heap.size + 1) rfl rfl (hR4.row _) rfl) rfl ⟨menuV zeroM none 0 0, by rw [H1.out, H2.out]; rfl, ?_⟩
      rw [H1.out]
      have hb5 := H.out.1.trans (hb3.mono H.out.1.size)
      exact refused_any (hb5.trans (hb4.mono hb5.size)) hR4
    · have hne : ((n : Int) == 16) = false := by simp; omega
      have heq : (m.last == 999999) = true := by simpa using hc2
      clear hc2
      go_enter Tryz.func21, Tryz.ntmps21
      go_wp2_with (first
        | (go_at_call 8; refine hr.mono ?_; clear hr; rintro e2 w3 ⟨rfl, hb3⟩; rw [← hW2] at hb3; have hR3 := H.out.2.2.2.below hb3 H.out.2.2.2.lt; have hM3 := H.out.2.2.1.below hb3 H.out.2.2.1.lt; have hs3 := hst w3)
        | (go_at_call 29; refine hs3.mono ?_; clear hs3; rintro e3 w4 ⟨rfl, hb4⟩; have hR4 := hR3.below hb4 hR3.lt; obtain ⟨m0, m1, m2, m3, m4, mf⟩ := menu_facts (hM3.below hb4 hM3.lt); have hst4 := store_menu hR4 rfl 0 0 0 0 none 0 0))
      refine bodyPost_ret (res_menu3 (t := 4) (u := 5) (v := 6) (g := w.heap.size + 1) rfl rfl (hR4.row _) rfl) rfl ⟨menuV zeroM none 0 0, by rw [H1.out, H2.out]; rfl, ?_⟩
      rw [H1.out]
      have hb5 := H.out.1.trans (hb3.mono H.out.1.size)
      exact refused_any (hb5.trans (hb4.mono hb5.size)) hR4
  · have H1 := Lib.hid (show addM m p = ⟨0, { m with last := m.last + 1, gens := m.gens ++ [⟨m.last + 1, p⟩] }⟩ by unfold addM; rw [if_neg (by rw [hm]; decide), if_neg (by rw [hpb]; decide), if_neg hfull])
    have H2 := Lib.hid (show addN m p = m.last + 1 by unfold addN; rw [H1.out]; rfl)
    have hne : ((n : Int) == 16) = false := by simp; omega
    have hne2 : (m.last == 999999) = false := by simp; omega
    have hl9 : m.last < 999999 := by omega
    clear hm hpb hfull hlen
    go_enter Tryz.func21, Tryz.ntmps21
    go_wp2_with (first
      | (go_at_call 8; refine hr.mono ?_; clear hr; rintro e2 w3 ⟨rfl, hb3⟩; rw [← hW2] at hb3; have hR3 := H.out.2.2.2.below hb3 H.out.2.2.2.lt; have hM3 := H.out.2.2.1.below hb3 H.out.2.2.1.lt; have hs3 := hst w3)
      | (go_at_call 29; refine hs3.mono ?_; clear hs3; rintro e3 w4 ⟨rfl, hb4⟩; have hR4 := hR3.below hb4 hR3.lt; have hM4 := hM3.below hb4 hM3.lt; obtain ⟨m0, m1, m2, m3, m4, mf⟩ := menu_facts hM4; have hl4 := load_menu hM4; have HW4 := (H.out.1.trans (hb3.mono H.out.1.size)).trans (hb4.mono (H.out.1.trans (hb3.mono H.out.1.size)).size); have ho := hown w4 HW4)
      | (go_at_call 48; refine ho.mono ?_; clear ho m0 m1 m2 m3 m4 mf; rintro e5 w5 ⟨A5, k5, rfl, ho5, hb5⟩; have hM5 := hM4.below hb5 hM4.lt; have hR5 := hR4.below hb5 hR4.lt; have hst := store_menu hM5 rfl m.last m.def_ m.next m.trial A5 n k5; have hM6 := hM5.row #[.int .i64 m.last, .int .i64 m.def_, .int .i64 m.next, .int .i64 m.trial, .slice A5 n k5]; obtain ⟨m0, m1, m2, m3, m4, mf⟩ := menu_facts hM6; obtain ⟨A8, k8, w8, hrun, ho8, hbl8, hM8, hR8⟩ := add_tail (p := p) hM5 hR5 (by omega) ho5 hM4.lt hR4.lt hn16 hb5.size; obtain ⟨q0, q1, q2, q3, q4, qf⟩ := menu_facts hM8; have hM9 := hM8.set_ 4 (.slice A8 (n + 1) k8); simp only [List.setIfInBounds_toArray, List.set_cons_zero, List.set_cons_succ] at hM9; have hl9 := load_menu hM9.drew; have hR9 := hR8.far (p := ⟨w.heap.size, 4, none⟩) (by simp) (.slice A8 (n + 1) k8); have hst9 := store_menu hR9.drew rfl (m.last + 1) m.def_ m.next m.trial A8 (n + 1) k8)
      | (at_builtin; refine wpList_append_run rfl _ _ _ rfl rfl rfl hrun ?_; clear hrun))
    have hc9 := (hM9.drew.row_far (g' := w.heap.size + 1) (by omega) #[.int .i64 (m.last + 1), .int .i64 m.def_, .int .i64 m.next, .int .i64 m.trial, .slice A8 (n + 1) k8]).cell 0
    have hc8 := hM9.cell 0
    simp only [List.getElem?_toArray, List.getElem?_cons_succ, List.getElem?_cons_zero] at hc9 hc8
    go_region
    go_wp2_with (fail)
    refine bodyPost_ret (res_menu3 (t := 4) (u := 5) (v := 6) (g := w.heap.size + 1) rfl rfl (hR9.drew.row _) rfl) rfl ⟨menuV { m with last := m.last + 1, gens := m.gens ++ [⟨m.last + 1, p⟩] } A8 (n + 1) k8, by rw [H1.out, H2.out]; rfl, ?_⟩
    rw [H1.out]
    have n0 := own_ne ho8 hM4.lt
    have n1 := own_ne ho8 hR4.lt
    refine ⟨A8, n + 1, k8, rfl, ?_, ?_⟩
    · exact own_row (w := (World.setCell _ _ _).drew) (own_set (own_mono ho8 HW4.size) n0 _) n1 _
    · exact below_row ((hbl8 w w.heap.size (HW4.trans (hb5.mono HW4.size)) (Nat.le_refl _) HW4.size).setCell (Nat.le_refl _) _).drew (by omega) _
end
end Go.Proofs.YtdhlklidenfbeaaGreatDoor
