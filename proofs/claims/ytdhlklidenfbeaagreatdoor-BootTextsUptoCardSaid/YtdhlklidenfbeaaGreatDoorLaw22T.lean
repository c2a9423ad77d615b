/- The walk of the laws' 'shown' (layer 22). -/
import Derived.Test.YtdhlklidenfbeaaGreatDoorLaw22S
namespace Go.Proofs.YtdhlklidenfbeaaGreatDoor
open Go.RowKit Go.Sort
set_option linter.unusedVariables false
set_option linter.unusedSimpArgs false

theorem s_list : sM1.gens = [⟨1, place⟩] := rfl
theorem s_short : ∀ g ∈ sM1.gens, g.path.length ≤ 1000000000 := by
  rw [s_list]
  intro g hg
  rw [List.mem_singleton.1 hg]
  show place.length ≤ 1000000000
  decide
theorem s_len {w : World} {B : Nat} {A : Option Addr} {n c : Nat} (h : GensAt w B A n c sM1.gens) : n ≤ 1000000000 := by
  have := h.len
  rw [s_list] at this
  simp at this
  omega

section
attribute [local go_sem ↓] load_menu_mark store_menu_mark
set_option maxRecDepth 100000 in
set_option maxHeartbeats 4000000 in
theorem shown_any (w : World) :
    Calls Tryz.prog 6 #[] w fun e w' => e = .returned (.bool true) ∧ Below w.heap.size w w' := by
  have ha := add_any (gens_nil w w.heap.size) (Nat.le_refl _) (by simp [zeroM]) (by decide) place (by decide)
  obtain ⟨f0, f1, f2, f3, f4, f5, f6, f7, f8, f9, f10, f11⟩ := s_facts
  rw [f0, f1] at ha
  have F2 := Lib.hid f2
  have F3 := Lib.hid f3
  have F4 := Lib.hid (And.intro f4 f5)
  have F6 := Lib.hid (And.intro f6 f7)
  have F8 := Lib.hid (And.intro f8 f9)
  have F10 := Lib.hid f10
  have F11 := Lib.hid f11
  have FT := Lib.hid s_text
  clear f0 f1 f2 f3 f4 f5 f6 f7 f8 f9 f10 f11
  go_enter Tryz.func6, Tryz.ntmps6
  go_wp2_with (first
    | (go_at_call 21; refine ha.mono ?_; clear ha; rintro e1 w1 ⟨v1, rfl, hg1⟩; have hz1 := hg1.choose_spec.choose_spec.choose_spec.2.2.size; obtain ⟨A1, n1, c1, rfl, hs1, hl1, hB1, hG1, hb1⟩ := got_new (show MenuGot w w1 sM1 v1 from hg1); have hd := default_any hG1 (by simp [World.setRow]) s_short (s_len hG1) 1; rw [F2.out] at hd; clear hg1)
    | (go_at_call 22; refine hd.mono ?_; clear hd hs1 hl1; rintro e2 w2 ⟨v2, rfl, hg2⟩; obtain ⟨A2, n2, c2, rfl, hs2, hl2, hB2, hG2, hb2⟩ := got_set (show MenuGot _ w2 sM2 v2 from hg2) hB1 rfl; have hn := next_any hG2 (Nat.le_refl _) s_short (s_len hG2) 1; rw [F3.out] at hn; clear hg2 hG1)
    | (go_at_call 23; refine hn.mono ?_; clear hn hs2 hl2; rintro e3 w3 ⟨v3, rfl, hg3⟩; obtain ⟨A3, n3, c3, rfl, hs3, hl3, hB3, hG3, hb3⟩ := got_new (show MenuGot _ w3 sM3 v3 from hg3); have hld := load_any hG3 (by simp [World.setRow]) (s_len hG3); rw [F4.out.1, F4.out.2] at hld; clear hg3 hG2)
    | (go_at_call 24; refine hld.mono ?_; clear hld hs3 hl3; rintro e4 w4 ⟨v4, rfl, hg4⟩; obtain ⟨A4, n4, c4, rfl, hs4, hl4, hB4, hG4, hb4⟩ := got_new (show MenuGot _ w4 sM4 v4 from hg4); have hld2 := load_any hG4 (by simp [World.setRow]) (s_len hG4); rw [F8.out.1, F8.out.2] at hld2; clear hg4 hG3)
    | (go_at_call 24; refine hld2.mono ?_; clear hld2 hs4 hl4; rintro e5 w5 ⟨v5, rfl, hg5⟩; obtain ⟨A5, n5, c5, rfl, hs5, hl5, hB5, hG5, hb5⟩ := got_new (show MenuGot _ w5 sM5 v5 from hg5); have hrm := remove_any hG5 (by simp [World.setRow]) s_short (s_len hG5) 1; rw [F11.out] at hrm; have hB4' := hB4.below hb5 hB4.lt; clear hg5 hG4)
    | (go_at_call 25; refine hrm.mono ?_; clear hrm hs5 hl5; rintro e6 w6 ⟨v6, rfl, hg6⟩; have hb6' := hg6.choose_spec.choose_spec.choose_spec.2.2; obtain ⟨A6, n6, c6, rfl, hs6, hl6, hB6, hG6, hb6⟩ := got_new hg6; obtain ⟨p0, p1, p2, p3, p4, pf⟩ := (hB4'.below hb6 hB4'.lt).facts; obtain ⟨q0, q1, q2, q3, q4, qf⟩ := (hB5.below hb6 hB5.lt).facts; rw [F6.out.1] at p3; rw [F6.out.2] at p2; rw [F10.out] at q3; have htx := btext_any (gens_nil _ 0) (Nat.zero_le _) (by simp [zeroM]) (fun _ => ⟨itoa_small _ 0 (by decide), itoa_small _ 0 (by decide), itoa_small _ 0 (by decide), itoa_small _ 0 (by decide), by simp [zeroM]⟩) (w := (w6.alloc (.cells #[.int .i64 0, .int .i64 0, .int .i64 0, .int .i64 0, .slice none 0 0] 24)).setRow w6.heap.size (mnCells (removeM sM5 1).menu A6 n6 c6)); rw [FT.out] at htx; clear hg6 hG5)
    | (go_at_call 7; refine htx.mono ?_; clear htx; rintro e7 w7 ⟨rfl, hb7⟩))
  go_ret
  have k2 := hb1.trans (hb2.mono hz1)
  have k3 := k2.trans (hb3.mono k2.size)
  have k4 := k3.trans (hb4.mono k3.size)
  have k5 := k4.trans (hb5.mono k4.size)
  have k6 := k5.trans (hb6.mono k5.size)
  exact ⟨rfl, k6.trans (hb7.mono k6.size)⟩
end
end Go.Proofs.YtdhlklidenfbeaaGreatDoor
