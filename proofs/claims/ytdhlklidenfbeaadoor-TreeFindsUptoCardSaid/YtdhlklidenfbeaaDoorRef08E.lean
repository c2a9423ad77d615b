/- The walk of the reference's add (bootjackref08). -/
import Derived.Test.YtdhlklidenfbeaaDoorIns
import Derived.Test.YtdhlklidenfbeaaDoorBytes
import Derived.Deep.RegionHeld3
namespace Go.Proofs.YtdhlklidenfbeaaDoor
open Go.RowKit Go.Sort
set_option linter.unusedVariables false
set_option linter.unusedSimpArgs false

theorem strAt {w : World} {B : Nat} {A : Option Addr} {n c : Nat} {L : List Txt} (h : Slc w B 1 A n c (L.map encStr)) {k : Nat} (hk : k < n) :
    ∃ b off, A = some ⟨b, off, none⟩ ∧ b < B ∧ ∃ hl : k < L.length, w.cell? ⟨b, off + k, none⟩ = some (.string ⟨L[k].toArray⟩) := by
  obtain ⟨b, off, e, hb, hc⟩ := h.at_ (by omega)
  have hl : k < L.length := by have := h.len; simp at this; omega
  exact ⟨b, off, e, hb, hl, hc k _ (by simp [encStr, List.getElem?_map, List.getElem?_eq_getElem hl])⟩
def AddPost (w : World) (base : Nat) (L : List Txt) : Ending → World → Prop := fun e w' => ∃ A' n' c', e = .returned (.slice A' n' c') ∧ w'.ownsRow base 9 1 (.slice A' n' c') n' (L.map encStr) ∧ Below w.heap.size w w'
theorem addL_hit {L : List Txt} {s : Txt} {k : Nat} (h : aheadN L s = k) (hk : k < L.length) (he : L[k] = s) : addL L s = L := by
  unfold addL
  rw [h, List.getElem?_eq_getElem hk, if_pos (by rw [he])]
theorem addL_new {L : List Txt} {s : Txt} {k : Nat} (h : aheadN L s = k) (he : ∀ hk : k < L.length, L[k] ≠ s) : addL L s = L.take k ++ s :: L.drop k := by
  unfold addL
  rw [h, if_neg]
  intro e
  obtain ⟨hk, h2⟩ := List.getElem?_eq_some_iff.1 e
  exact he hk h2

set_option maxRecDepth 100000 in
set_option maxHeartbeats 4000000 in
theorem refAdd_any {w : World} {base : Nat} {A : Option Addr} {n c : Nat} {L : List Txt} (h : w.ownsRow base 9 1 (.slice A n c) n (L.map encStr)) (hbase : base ≤ w.heap.size) (hn : n ≤ 100000000) (s : Txt) :
    Calls Tryd.prog 85 #[.slice A n c, .string ⟨s.toArray⟩] w (AddPost w base (addL L s)) := by
  have hS := own_slc_of h
  have hll : L.length = n := by have := h.1; simpa using this
  have hn62 : n ≤ 9223372036854775807 := by omega
  have hcap : n ≤ c := hS.le
  have hc62 : c ≤ 9223372036854775807 := by have := hS.cmax; unfold maxLen at this; omega
  have ts : (ByteArray.mk s.toArray).toList = s := Go.ByteArray.toList_eq _
  have H := Lib.hid h
  have HS := Lib.hid hS
  have HLL := Lib.hid hll
  clear h hS hll
  go_enter Tryd.func85, Tryd.ntmps85
  go_wp2_with (fail)
  go_loop [5] (fun i => ∃ k : Nat, k ≤ n ∧ i = .int .i64 (k : Int) ∧ Aside (∀ j (hj : j < L.length), j < k → L[j] < s)) (fun i => n - (intOf i).toNat)
  case atStart => exact ⟨0, Nat.zero_le _, rfl, fun j _ h => absurd h (Nat.not_lt_zero _)⟩
  case round =>
    obtain ⟨k, hk, rfl, hlo⟩ := hrel
    by_cases hlt : k < n
    · obtain ⟨b, off, rfl, hbB, hl, c0⟩ := strAt HS.out hlt
      have hcmp := less_str L[k] s
      have hcmp2 := bytesLess_txt L[k] s
      by_cases hls : L[k] < s
      · have HN := Lib.hid (show ∀ j (hj : j < L.length), j < k + 1 → L[j] < s from fun j hj hjk => by
          rcases Nat.lt_or_ge j k with h1 | h1
          · exact hlo.out j hj h1
          · obtain rfl : j = k := by omega
            exact hls)
        rw [decide_eq_true hls] at hcmp hcmp2
        clear hls
        generalize L[k] = x at *
        go_wp2_with (fail)
        exact ⟨⟨k + 1, by omega, by go_num, HN.out⟩, by simp [intOf]; omega⟩
      · have HA := Lib.hid (aheadN_eq L s k (by omega) (fun i hi hik => hlo.out i hi hik) (fun _ => hls))
        rw [decide_eq_false hls] at hcmp hcmp2
        have tx : (ByteArray.mk L[k].toArray).toList = L[k] := Go.ByteArray.toList_eq _
        cases heq : (L[k] == s) with
        | true =>
          have HX := Lib.hid (addL_hit HA.out hl (by simpa using heq))
          clear hls
          generalize L[k] = x at *
          go_wp2_with (fail)
          go_ret
          exact ⟨_, n, c, rfl, by rw [HX.out]; exact H.out, Below.refl _ _⟩
        | false =>
          have HX := Lib.hid (addL_new HA.out (fun hk e => by rw [e] at heq; simp at heq))
          clear hls
          generalize L[k] = x at *
          have hkc : ¬ k = c := by omega
          have hck : ¬ c = k := by omega
          have htv : tailV (some ⟨b, off, none⟩) n c k = .slice (some ⟨b, off + k, none⟩) (n - k) (c - k) := by simp only [tailV, if_neg hkc, addr_of_add]
          have HTV := Lib.hid htv
          clear htv
          obtain ⟨a1, ac1, aw1, a2, ac2, aw2, a3, ac3, aw3, SA⟩ := ins3_a (w := w) HS.out (Nat.le_refl _) hk (by omega) s
          obtain ⟨b1, bc1, bw1, b2, bc2, bw2, b3, bc3, bw3, SB⟩ := ins3_b (w := w) HS.out (Nat.le_refl _) hk (by omega) s
          obtain ⟨d1, dc1, dw1, d2, dc2, dw2, d3, dc3, dw3, SC⟩ := ins3_c (w := w) HS.out (Nat.le_refl _) hk (by omega) s
          have hA3 := SA.r3
          have hB3 := SB.r3
          have hC3 := SC.r3
          rw [HTV.out] at hA3 hB3 hC3
          have HSA := Lib.hid SA
          have HSB := Lib.hid SB
          have HSC := Lib.hid SC
          have HA1 := Lib.hid SA.r1
          have HA2 := Lib.hid SA.r2
          have HA3 := Lib.hid hA3
          have HB1 := Lib.hid SB.r1
          have HB2 := Lib.hid SB.r2
          have HB3 := Lib.hid hB3
          have HC1 := Lib.hid SC.r1
          have HC2 := Lib.hid SC.r2
          have HC3 := Lib.hid hC3
          have j1 : (0 : Int) ≤ (k : Int) := by omega
          have j2 : (k : Int) ≤ (c : Int) := by omega
          have j3 : (k : Int) ≤ (n : Int) := by omega
          have j4 : (n : Int) ≤ (c : Int) := by omega
          clear SA SB SC hA3 hB3 hC3
          go_wp2_with (fail)
          go_region_held3 (fun W' => True) (trivial) (first
            | (refine step_append_at (by rfl) _ _ _ (by rfl) HA1.out (by with_reducible rfl) (by rfl) (by rfl) (by rfl) ?_; clear HA1 HB1 HC1 HB2 HB3 HC2 HC3)
            | (refine step_append_at (by rfl) _ _ _ (by rfl) HB1.out (by with_reducible rfl) (by rfl) (by rfl) (by rfl) ?_; clear HA1 HB1 HC1 HA2 HA3 HC2 HC3)
            | (refine step_append_at (by rfl) _ _ _ (by rfl) HC1.out (by with_reducible rfl) (by rfl) (by rfl) (by rfl) ?_; clear HA1 HB1 HC1 HA2 HA3 HB2 HB3)
            | (refine step_append_at (by rfl) _ _ _ (by rfl) HA2.out (by with_reducible rfl) (by rfl) (by rfl) (by rfl) ?_; clear HA2)
            | (refine step_append_at (by rfl) _ _ _ (by rfl) HB2.out (by with_reducible rfl) (by rfl) (by rfl) (by rfl) ?_; clear HB2)
            | (refine step_append_at (by rfl) _ _ _ (by rfl) HC2.out (by with_reducible rfl) (by rfl) (by rfl) (by rfl) ?_; clear HC2)
            | (refine step_append_at (by rfl) _ _ _ (by rfl) HA3.out (by with_reducible rfl) (by rfl) (by rfl) (by rfl) ?_; clear HA3)
            | (refine step_append_at (by rfl) _ _ _ (by rfl) HB3.out (by with_reducible rfl) (by rfl) (by rfl) (by rfl) ?_; clear HB3)
            | (refine step_append_at (by rfl) _ _ _ (by rfl) HC3.out (by with_reducible rfl) (by rfl) (by rfl) (by rfl) ?_; clear HC3))
          all_goals go_wp2_with (fail)
          all_goals go_ret
          all_goals first
            | exact ⟨_, _, _, rfl, by rw [HX.out]; exact own_mono HSA.out.own hbase, HSA.out.bel⟩
            | exact ⟨_, _, _, rfl, by rw [HX.out]; exact own_mono HSB.out.own hbase, HSB.out.bel⟩
            | exact ⟨_, _, _, rfl, by rw [HX.out]; exact own_mono HSC.out.own hbase, HSC.out.bel⟩
    · obtain rfl : k = n := by omega
      have HX := Lib.hid (addL_new (aheadN_eq L s k (by have := HLL.out; omega) (fun i hi hik => hlo.out i hi hik) (fun h => absurd h (by have := HLL.out; omega))) (fun hk' _ => by have := HLL.out; omega))
      rcases A with _ | ⟨b, off, sp⟩
      · obtain ⟨hk0, hc0⟩ : k = 0 ∧ c = 0 := by
          rcases H.out.2 with ⟨e, h0⟩ | ⟨g, cap, cur, e, _⟩
          · injection e with e1 e2 e3
            exact ⟨h0, e3⟩
          · injection e with e1
            cases e1
        subst hk0 hc0
        have HTV := Lib.hid (show tailV none 0 0 0 = .slice none 0 0 from rfl)
        clear hlt
        obtain ⟨a1, ac1, aw1, a2, ac2, aw2, a3, ac3, aw3, SA⟩ := ins3_a (w := w) HS.out (Nat.le_refl _) hk (by omega) s
        obtain ⟨b1, bc1, bw1, b2, bc2, bw2, b3, bc3, bw3, SB⟩ := ins3_b (w := w) HS.out (Nat.le_refl _) hk (by omega) s
        obtain ⟨d1, dc1, dw1, d2, dc2, dw2, d3, dc3, dw3, SC⟩ := ins3_c (w := w) HS.out (Nat.le_refl _) hk (by omega) s
        have hA3 := SA.r3
        have hB3 := SB.r3
        have hC3 := SC.r3
        rw [HTV.out] at hA3 hB3 hC3
        have HSA := Lib.hid SA
        have HSB := Lib.hid SB
        have HSC := Lib.hid SC
        have HA1 := Lib.hid SA.r1
        have HA2 := Lib.hid SA.r2
        have HA3 := Lib.hid hA3
        have HB1 := Lib.hid SB.r1
        have HB2 := Lib.hid SB.r2
        have HB3 := Lib.hid hB3
        have HC1 := Lib.hid SC.r1
        have HC2 := Lib.hid SC.r2
        have HC3 := Lib.hid hC3
        clear SA SB SC hA3 hB3 hC3
        go_wp2_with (fail)
        go_region_held3 (fun W' => True) (trivial) (first
          | (refine step_append_at (by rfl) _ _ _ (by rfl) HA1.out (by with_reducible rfl) (by rfl) (by rfl) (by rfl) ?_; clear HA1 HB1 HC1 HB2 HB3 HC2 HC3)
          | (refine step_append_at (by rfl) _ _ _ (by rfl) HB1.out (by with_reducible rfl) (by rfl) (by rfl) (by rfl) ?_; clear HA1 HB1 HC1 HA2 HA3 HC2 HC3)
          | (refine step_append_at (by rfl) _ _ _ (by rfl) HC1.out (by with_reducible rfl) (by rfl) (by rfl) (by rfl) ?_; clear HA1 HB1 HC1 HA2 HA3 HB2 HB3)
          | (refine step_append_at (by rfl) _ _ _ (by rfl) HA2.out (by with_reducible rfl) (by rfl) (by rfl) (by rfl) ?_; clear HA2)
          | (refine step_append_at (by rfl) _ _ _ (by rfl) HB2.out (by with_reducible rfl) (by rfl) (by rfl) (by rfl) ?_; clear HB2)
          | (refine step_append_at (by rfl) _ _ _ (by rfl) HC2.out (by with_reducible rfl) (by rfl) (by rfl) (by rfl) ?_; clear HC2)
          | (refine step_append_at (by rfl) _ _ _ (by rfl) HA3.out (by with_reducible rfl) (by rfl) (by rfl) (by rfl) ?_; clear HA3)
          | (refine step_append_at (by rfl) _ _ _ (by rfl) HB3.out (by with_reducible rfl) (by rfl) (by rfl) (by rfl) ?_; clear HB3)
          | (refine step_append_at (by rfl) _ _ _ (by rfl) HC3.out (by with_reducible rfl) (by rfl) (by rfl) (by rfl) ?_; clear HC3))
        all_goals go_wp2_with (fail)
        all_goals go_ret
        all_goals first
          | exact ⟨_, _, _, rfl, by rw [HX.out]; exact own_mono HSA.out.own hbase, HSA.out.bel⟩
          | exact ⟨_, _, _, rfl, by rw [HX.out]; exact own_mono HSB.out.own hbase, HSB.out.bel⟩
          | exact ⟨_, _, _, rfl, by rw [HX.out]; exact own_mono HSC.out.own hbase, HSC.out.bel⟩
      · obtain rfl : sp = none := by
          rcases H.out.2 with ⟨e, h0⟩ | ⟨g, cap, cur, e, _⟩
          · injection e with e1
            cases e1
          · injection e with e1
            injection e1 with e1
            injection e1
        by_cases hck : c = k
        · subst hck
          have HTV := Lib.hid (show tailV (some ⟨b, off, none⟩) c c c = .slice (some ⟨b, off, none⟩) 0 0 by simp [tailV])
          obtain ⟨a1, ac1, aw1, a2, ac2, aw2, a3, ac3, aw3, SA⟩ := ins3_a (w := w) HS.out (Nat.le_refl _) hk (by omega) s
          obtain ⟨b1, bc1, bw1, b2, bc2, bw2, b3, bc3, bw3, SB⟩ := ins3_b (w := w) HS.out (Nat.le_refl _) hk (by omega) s
          obtain ⟨d1, dc1, dw1, d2, dc2, dw2, d3, dc3, dw3, SC⟩ := ins3_c (w := w) HS.out (Nat.le_refl _) hk (by omega) s
          have hA3 := SA.r3
          have hB3 := SB.r3
          have hC3 := SC.r3
          rw [HTV.out] at hA3 hB3 hC3
          have HSA := Lib.hid SA
          have HSB := Lib.hid SB
          have HSC := Lib.hid SC
          have HA1 := Lib.hid SA.r1
          have HA2 := Lib.hid SA.r2
          have HA3 := Lib.hid hA3
          have HB1 := Lib.hid SB.r1
          have HB2 := Lib.hid SB.r2
          have HB3 := Lib.hid hB3
          have HC1 := Lib.hid SC.r1
          have HC2 := Lib.hid SC.r2
          have HC3 := Lib.hid hC3
          have j1 : (0 : Int) ≤ (c : Int) := by omega
          have j2 : (c : Int) ≤ (c : Int) := by omega
          clear SA SB SC hA3 hB3 hC3
          go_wp2_with (fail)
          go_region_held3 (fun W' => True) (trivial) (first
            | (refine step_append_at (by rfl) _ _ _ (by rfl) HA1.out (by with_reducible rfl) (by rfl) (by rfl) (by rfl) ?_; clear HA1 HB1 HC1 HB2 HB3 HC2 HC3)
            | (refine step_append_at (by rfl) _ _ _ (by rfl) HB1.out (by with_reducible rfl) (by rfl) (by rfl) (by rfl) ?_; clear HA1 HB1 HC1 HA2 HA3 HC2 HC3)
            | (refine step_append_at (by rfl) _ _ _ (by rfl) HC1.out (by with_reducible rfl) (by rfl) (by rfl) (by rfl) ?_; clear HA1 HB1 HC1 HA2 HA3 HB2 HB3)
            | (refine step_append_at (by rfl) _ _ _ (by rfl) HA2.out (by with_reducible rfl) (by rfl) (by rfl) (by rfl) ?_; clear HA2)
            | (refine step_append_at (by rfl) _ _ _ (by rfl) HB2.out (by with_reducible rfl) (by rfl) (by rfl) (by rfl) ?_; clear HB2)
            | (refine step_append_at (by rfl) _ _ _ (by rfl) HC2.out (by with_reducible rfl) (by rfl) (by rfl) (by rfl) ?_; clear HC2)
            | (refine step_append_at (by rfl) _ _ _ (by rfl) HA3.out (by with_reducible rfl) (by rfl) (by rfl) (by rfl) ?_; clear HA3)
            | (refine step_append_at (by rfl) _ _ _ (by rfl) HB3.out (by with_reducible rfl) (by rfl) (by rfl) (by rfl) ?_; clear HB3)
            | (refine step_append_at (by rfl) _ _ _ (by rfl) HC3.out (by with_reducible rfl) (by rfl) (by rfl) (by rfl) ?_; clear HC3))
          all_goals go_wp2_with (fail)
          all_goals go_ret
          all_goals first
            | exact ⟨_, _, _, rfl, by rw [HX.out]; exact own_mono HSA.out.own hbase, HSA.out.bel⟩
            | exact ⟨_, _, _, rfl, by rw [HX.out]; exact own_mono HSB.out.own hbase, HSB.out.bel⟩
            | exact ⟨_, _, _, rfl, by rw [HX.out]; exact own_mono HSC.out.own hbase, HSC.out.bel⟩
        · have hkc : ¬ k = c := by omega
          have HTV := Lib.hid (show tailV (some ⟨b, off, none⟩) k c k = .slice (some ⟨b, off + k, none⟩) 0 (c - k) by simp only [tailV, if_neg hkc, addr_of_add, Nat.sub_self])
          obtain ⟨a1, ac1, aw1, a2, ac2, aw2, a3, ac3, aw3, SA⟩ := ins3_a (w := w) HS.out (Nat.le_refl _) hk (by omega) s
          obtain ⟨b1, bc1, bw1, b2, bc2, bw2, b3, bc3, bw3, SB⟩ := ins3_b (w := w) HS.out (Nat.le_refl _) hk (by omega) s
          obtain ⟨d1, dc1, dw1, d2, dc2, dw2, d3, dc3, dw3, SC⟩ := ins3_c (w := w) HS.out (Nat.le_refl _) hk (by omega) s
          have hA3 := SA.r3
          have hB3 := SB.r3
          have hC3 := SC.r3
          rw [HTV.out] at hA3 hB3 hC3
          have HSA := Lib.hid SA
          have HSB := Lib.hid SB
          have HSC := Lib.hid SC
          have HA1 := Lib.hid SA.r1
          have HA2 := Lib.hid SA.r2
          have HA3 := Lib.hid hA3
          have HB1 := Lib.hid SB.r1
          have HB2 := Lib.hid SB.r2
          have HB3 := Lib.hid hB3
          have HC1 := Lib.hid SC.r1
          have HC2 := Lib.hid SC.r2
          have HC3 := Lib.hid hC3
          have j1 : (0 : Int) ≤ (k : Int) := by omega
          have j2 : (k : Int) ≤ (c : Int) := by omega
          clear SA SB SC hA3 hB3 hC3
          go_wp2_with (fail)
          go_region_held3 (fun W' => True) (trivial) (first
            | (refine step_append_at (by rfl) _ _ _ (by rfl) HA1.out (by with_reducible rfl) (by rfl) (by rfl) (by rfl) ?_; clear HA1 HB1 HC1 HB2 HB3 HC2 HC3)
            | (refine step_append_at (by rfl) _ _ _ (by rfl) HB1.out (by with_reducible rfl) (by rfl) (by rfl) (by rfl) ?_; clear HA1 HB1 HC1 HA2 HA3 HC2 HC3)
            | (refine step_append_at (by rfl) _ _ _ (by rfl) HC1.out (by with_reducible rfl) (by rfl) (by rfl) (by rfl) ?_; clear HA1 HB1 HC1 HA2 HA3 HB2 HB3)
            | (refine step_append_at (by rfl) _ _ _ (by rfl) HA2.out (by with_reducible rfl) (by rfl) (by rfl) (by rfl) ?_; clear HA2)
            | (refine step_append_at (by rfl) _ _ _ (by rfl) HB2.out (by with_reducible rfl) (by rfl) (by rfl) (by rfl) ?_; clear HB2)
            | (refine step_append_at (by rfl) _ _ _ (by rfl) HC2.out (by with_reducible rfl) (by rfl) (by rfl) (by rfl) ?_; clear HC2)
            | (refine step_append_at (by rfl) _ _ _ (by rfl) HA3.out (by with_reducible rfl) (by rfl) (by rfl) (by rfl) ?_; clear HA3)
            | (refine step_append_at (by rfl) _ _ _ (by rfl) HB3.out (by with_reducible rfl) (by rfl) (by rfl) (by rfl) ?_; clear HB3)
            | (refine step_append_at (by rfl) _ _ _ (by rfl) HC3.out (by with_reducible rfl) (by rfl) (by rfl) (by rfl) ?_; clear HC3))
          all_goals go_wp2_with (fail)
          all_goals go_ret
          all_goals first
            | exact ⟨_, _, _, rfl, by rw [HX.out]; exact own_mono HSA.out.own hbase, HSA.out.bel⟩
            | exact ⟨_, _, _, rfl, by rw [HX.out]; exact own_mono HSB.out.own hbase, HSB.out.bel⟩
            | exact ⟨_, _, _, rfl, by rw [HX.out]; exact own_mono HSC.out.own hbase, HSC.out.bel⟩
end Go.Proofs.YtdhlklidenfbeaaDoor
