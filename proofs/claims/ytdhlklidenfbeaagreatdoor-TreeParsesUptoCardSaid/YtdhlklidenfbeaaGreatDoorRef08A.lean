/- The walks of the reference's one and Right (bootjackref08). -/
import Derived.Test.YtdhlklidenfbeaaGreatDoorRef06
import Derived.Test.YtdhlklidenfbeaaGreatDoorRight
namespace Go.Proofs.YtdhlklidenfbeaaGreatDoor
open Go.RowKit Go.Sort
set_option linter.unusedVariables false
set_option linter.unusedSimpArgs false

theorem slash_cat (t : Txt) : ((⟨#[47]⟩ : ByteArray) ++ ⟨t.toArray⟩) = ⟨(47 :: t).toArray⟩ := by
  apply Go.WideShapes.bytes_inj
  simp
theorem oneB_long {x : Ent} (h : 120 < x.path.length ∨ 2048 < x.data.length) : entryB x = false := by
  unfold entryB
  rw [decide_eq_false (by omega)]
  rfl
theorem oneB_none {x : Ent} (h : pathNames (47 :: x.path) = none) : entryB x = false := by
  rw [entryB_by, h]
  simp
theorem oneB_few {x : Ent} {l : List Txt} (h : pathNames (47 :: x.path) = some l) (hl : l.length < 1 ∨ 4 < l.length) : entryB x = false := by
  rw [entryB_by, h]
  simp only
  rw [decide_eq_false (p := 1 ≤ l.length ∧ l.length ≤ 4) (by omega)]
  simp
theorem oneB_end {x : Ent} {l : List Txt} (h1 : x.path.length ≤ 120) (h2 : x.data.length ≤ 2048) (h : pathNames (47 :: x.path) = some l) (hl1 : 1 ≤ l.length) (hl2 : l.length ≤ 4) : entryB x = if x.kind = 3 then (pathNames x.data).isSome else decide (x.kind = 1) := by
  rw [entryB_by, h, decide_eq_true (show x.path.length ≤ 120 ∧ x.data.length ≤ 2048 from ⟨h1, h2⟩)]
  simp only
  rw [decide_eq_true (show 1 ≤ l.length ∧ l.length ≤ 4 from ⟨hl1, hl2⟩)]
  simp

set_option maxRecDepth 100000 in
set_option maxHeartbeats 2000000 in
theorem refOne_any {w : World} {B : Nat} (e : EV) (hd : Slc w B 1 e.A e.n e.c (e.data.map bv)) (hB : B ≤ w.heap.size) (hp : e.path.length ≤ 1000000000) :
    Calls Tryz.prog 89 #[.agg (evArr e)] w fun v w' => v = .returned (.bool (entryB e.ent)) ∧ Below w.heap.size w w' := by
  obtain ⟨path, kind, data, A, n, c⟩ := e
  simp only at hd hp
  have hdl : data.length = n := by have := hd.len; simpa using this
  have hnm : n ≤ 9223372036854775807 := by have h1 := hd.le; have h2 := hd.cmax; unfold maxLen at h2; omega
  unfold evArr
  simp only [EV.ent]
  obtain ⟨W1, hW1⟩ : ∃ W1, W1 = w.alloc (.cells #[.string ⟨path.toArray⟩, .int .i64 kind, .slice A n c] 73) := ⟨_, rfl⟩
  have hb1 : Below w.heap.size w W1 := by rw [hW1]; exact (Below.refl _ w).alloc (Nat.le_refl _) _
  have hG : Blk W1 w.heap.size 73 #[.string ⟨path.toArray⟩, .int .i64 kind, .slice A n c] := by rw [hW1]; exact Blk.new _ _ _
  by_cases hlong : 120 < path.length ∨ 2048 < data.length
  · have HX := Lib.hid (oneB_long (x := ⟨path, kind, data⟩) hlong)
    have hq : 120 < path.length ∨ (¬ 120 < path.length ∧ 2048 < n) := by omega
    have HB1 := Lib.hid (hW1 ▸ hb1)
    clear hlong hdl hd hG hb1 hW1
    rcases hq with h0 | ⟨h0, h1⟩
    all_goals
      go_enter Tryz.func89, Tryz.ntmps89
      go_wp2_with (fail)
      go_ret
      exact ⟨by rw [HX.out]; rfl, HB1.out⟩
  have hl1 : ¬ 120 < path.length := by omega
  have hl2 : ¬ 2048 < n := by omega
  have hcat : ¬ 9223372036854775807 < 1 + path.length := by omega
  have hpa := fun W => refPath_any (47 :: path) W (by rw [List.length_cons]; unfold maxLen; omega)
  have HD := Lib.hid hd
  have HG := Lib.hid hG
  have HB1 := Lib.hid hb1
  have HDL := Lib.hid hdl
  have hpd := fun W => refPath_any data W (by unfold maxLen; omega)
  have hpathl : path.length ≤ 120 := by omega
  have hdatal : data.length ≤ 2048 := by omega
  cases hpn : pathNames (47 :: path) with
  | none =>
    have HX := Lib.hid (oneB_none (x := ⟨path, kind, data⟩) hpn)
    have HPN := Lib.hid hpn
    rw [← slash_cat] at hpa
    clear hlong hdl hd hG hb1 hpn hpd
    go_enter Tryz.func89, Tryz.ntmps89
    go_wp2_with (go_at_call 122; rw [← hW1]; refine (hpa _).mono ?_; clear hpa; rintro e2 w2 ⟨A2, n2, c2, rfl, ho2, hb2⟩; rw [HPN.out])
    go_ret
    exact ⟨by rw [HX.out]; rfl, HB1.out.trans (hb2.mono HB1.out.size)⟩
  | some l =>
    have HPN := Lib.hid hpn
    rw [← slash_cat] at hpa
    by_cases hfew : l.length < 1 ∨ 4 < l.length
    · have HX := Lib.hid (oneB_few (x := ⟨path, kind, data⟩) hpn hfew)
      have hq : l.length < 1 ∨ (¬ l.length < 1 ∧ 4 < l.length) := by omega
      clear hlong hdl hd hG hb1 hpn hpd hfew
      rcases hq with h0 | ⟨h0, h1⟩
      all_goals
        go_enter Tryz.func89, Tryz.ntmps89
        go_wp2_with (go_at_call 122; rw [← hW1]; refine (hpa _).mono ?_; clear hpa; rintro e2 w2 ⟨A2, n2, c2, rfl, ho2, hb2⟩; rw [HPN.out]; have hn2 : n2 = l.length := (by have h := (ho2 l HPN.out).1; rw [List.length_map] at h; omega); subst hn2)
        go_ret
        exact ⟨by rw [HX.out]; rfl, HB1.out.trans (hb2.mono HB1.out.size)⟩
    · have hf1 : ¬ l.length < 1 := by omega
      have hf2 : ¬ 4 < l.length := by omega
      have HEND := Lib.hid (oneB_end (x := ⟨path, kind, data⟩) hpathl hdatal hpn (by omega) (by omega))
      clear hlong hdl hd hG hb1 hpn hfew
      by_cases h3 : kind = 3
      · have HX := Lib.hid (HEND.out.trans (if_pos h3))
        have hk3 : (kind == 3) = true := by simpa using h3
        clear h3 HEND
        go_enter Tryz.func89, Tryz.ntmps89
        go_wp2_with (first
          | (go_at_call 122; rw [← hW1]; refine (hpa _).mono ?_; clear hpa; rintro e2 w2 ⟨A2, n2, c2, rfl, ho2, hb2⟩; rw [HPN.out]; have hn2 : n2 = l.length := (by have h := (ho2 l HPN.out).1; rw [List.length_map] at h; omega); subst hn2; have g1 := (HG.out.below hb2 HG.out.lt).cell 1; have g2 := (HG.out.below hb2 HG.out.lt).cell 2; simp only [List.getElem?_toArray, List.getElem?_cons_zero, List.getElem?_cons_succ] at g1 g2; have hcv := convert_bytes (P := Tryz.prog) Tryz.underlying32 Tryz.underlying5 (HD.out.below ((HB1.out.trans (hb2.mono HB1.out.size)).mono hB)) 9 Tryz.underlying9)
          | (go_at_call 122; refine (hpd _).mono ?_; clear hpd; rintro e3 w3 ⟨A3, n3, c3, rfl, ho3, hb3⟩))
        go_ret
        have hb12 := HB1.out.trans (hb2.mono HB1.out.size)
        exact ⟨by rw [HX.out]; rfl, hb12.trans (hb3.mono hb12.size)⟩
      · have HX := Lib.hid (HEND.out.trans (if_neg h3))
        have hk3 : (kind == 3) = false := by simpa using h3
        have hkd : (kind == 1) = decide (kind = 1) := by rw [Bool.eq_iff_iff]; simp
        have HKD := Lib.hid hkd
        clear h3 HEND hpd hkd
        go_enter Tryz.func89, Tryz.ntmps89
        go_wp2_with (go_at_call 122; rw [← hW1]; refine (hpa _).mono ?_; clear hpa; rintro e2 w2 ⟨A2, n2, c2, rfl, ho2, hb2⟩; rw [HPN.out]; have hn2 : n2 = l.length := (by have h := (ho2 l HPN.out).1; rw [List.length_map] at h; omega); subst hn2; have g1 := (HG.out.below hb2 HG.out.lt).cell 1; have g2 := (HG.out.below hb2 HG.out.lt).cell 2; simp only [List.getElem?_toArray, List.getElem?_cons_zero, List.getElem?_cons_succ] at g1 g2)
        go_ret
        exact ⟨by rw [HX.out, ← HKD.out]; rfl, HB1.out.trans (hb2.mono HB1.out.size)⟩
end Go.Proofs.YtdhlklidenfbeaaGreatDoor
