/- The reference of layer 20: user. -/
import Derived.Test.YtibndaianhlcaaaGreatDoorPart24
import Derived.Test.YtibndaianhlcaaaGreatDoorPart13
import Derived.Test.YtibndaianhlcaaaGreatDoorPart25
namespace Go.Proofs.YtibndaianhlcaaaGreatDoor
open Go.RowKit Go.Sort Go.Shelf
set_option linter.unusedVariables false
set_option linter.unusedSimpArgs false

section
variable {w w' : World} {R : Nat → Prop} {r : Nat} {s : Mach} {o : OV} {pA : Option Addr} {pn pc : Nat}
/-- A text more. -/
theorem user_end {w1 w9 : World} (h : RefV w1 R r s o pA pn pc) (hb : Below w.heap.size w w1) (hrw : r < w.heap.size) {k : Nat} {name : Txt} {A9 : Option Addr} {c9 : Nat} (ho : w9.ownsRow w1.heap.size 9 1 (.slice A9 (o.n2 + 1) c9) (o.n2 + 1) ((o.users.map encStr).take (k * 1) ++ (#[Value.string ⟨name.toArray⟩] : Array Value).toList ++ (o.users.map encStr).drop (k * 1))) (hb9 : Below w1.heap.size w1 w9) :
    RefPost w R r (⟨s.files, insA s.users k name, s.units, s.plan⟩, 0) (.returned (.int .i64 0)) (w9.setCell ⟨r, 1, none⟩ (.slice A9 (o.n2 + 1) c9)) := by
  have hbw : Below w.heap.size w w9 := hb.trans (hb9.mono hb.size)
  have h9 := h.below hb9
  have hz := hb.size
  have hout : ¬ Fn R w w9 r := fun hk => by rcases hk with hk | hk; exact h.out hk; omega
  have hw9 := h9.wide (fn_wide R w w9) hout
  have he : (o.users.map encStr).take (k * 1) ++ (#[Value.string ⟨name.toArray⟩] : Array Value).toList ++ (o.users.map encStr).drop (k * 1) = (insA o.users k name).map encStr := by rw [ins_map]; simp [encStr]
  have hset := hw9.setUsers (l := insA o.users k name) (by rw [← he]; exact own_slc_of ho) (fun a ha => by have := own_in ho a ha; exact .inr ⟨by omega, this.2⟩)
  refine ⟨rfl, ?_, step_bel_set hbw r 1 _⟩
  rw [fn_set]
  rw [h.users] at hset
  exact ⟨_, _, _, _, hset⟩
theorem aheadN_lo {l : List Txt} {n : Txt} : ∀ i (hi : i < l.length), i < aheadN l n → l[i] < n := fun i hi h => aheadN_lt l n h hi
section
attribute [local go_sem ↓] slice_mark_txt
set_option maxRecDepth 100000 in
set_option maxHeartbeats 4000000 in
theorem refUser20_any (h : RefV w R r s o pA pn pc) (hn : o.n2 ≤ 1000000) (name : Txt) (hname : name.length ≤ 1000000000) :
    Calls Tryz.prog 54 #[.pointer (some ⟨r, 0, none⟩), .string ⟨name.toArray⟩] w (RefPost w R r (doUser s name)) := by
  have hnm := refName_any ⟨name.toArray⟩ w (by show name.toArray.size ≤ maxLen; rw [List.size_toArray]; unfold maxLen; omega)
  have ht : (ByteArray.mk name.toArray).data.toList = name := rfl
  rw [ht] at hnm
  have hl := h.lens
  have hrw := h.blk.lt
  have fin : Hid (∀ k w', Below w.heap.size w w' → RefPost w R r (s, k) (.returned (.int .i64 k)) w') := fun k w' hb => ⟨rfl, ⟨_, _, _, _, (h.below hb).wide (fn_wide _ _ _) (h.fn w')⟩, (Step.of_below hb (fun k => k = r))⟩
  have H := Lib.hid h
  have HN := Lib.hid hn
  have HL := Lib.hid hl
  have HU := Lib.hid h.users
  have HB2 : Hid (∀ {w1 : World}, Below w.heap.size w w1 → RefV w1 R r s o pA pn pc) := fun hb => h.below hb
  obtain ⟨A, n, c, es, A2, n2, c2, users, A3, n3, c3, us⟩ := o
  have hus : users = s.users := HU.out
  have hun : users.length = n2 := by rw [hus]; exact HL.out.2.2.1
  have hn62 : n2 ≤ 1000000 := HN.out
  have HUN := Lib.hid hun
  have HUS := Lib.hid hus
  clear ht h hl hn hus hun
  cases hm : nameB name with
  | false =>
    rw [hm] at hnm
    have HX := Lib.hid (show doUser s name = (s, 70) by unfold doUser; rw [if_neg (by rw [hm]; decide)])
    clear hm
    go_enter Tryz.func54, Tryz.ntmps54
    go_wp2_with (go_at_call 45; refine hnm.mono ?_; clear hnm; rintro e w1 ⟨rfl, hb1⟩)
    go_ret
    rw [HX.out]
    exact fin.out 70 _ hb1
  | true =>
    rw [hm] at hnm
    have HM := Lib.hid hm
    have HD : Hid (∀ k, k = aheadN users name → doUser s name = if users[k]? = some name then (s, 0) else if users.length = 16 then (s, 70) else (⟨s.files, insA s.users k name, s.units, s.plan⟩, 0)) := fun k hk => by
      unfold doUser
      rw [if_pos HM.out, ← HUS.out, hk]
    clear hm
    go_enter Tryz.func54, Tryz.ntmps54
    go_wp2_with (go_at_call 45; refine hnm.mono ?_; clear hnm; rintro e w1 ⟨rfl, hb1⟩; have HB1 := Lib.hid hb1; have m1 : w1.cell? ⟨r, 1, none⟩ = some (.slice A2 n2 c2) := (HB2.out hb1).facts.2.1; have hsl : Slc w1 w1.heap.size 1 A2 n2 c2 (users.map encStr) := (HB2.out hb1).obs.at_.users; have HSL := Lib.hid hsl; have hrw1 : r < w1.heap.size := Nat.lt_of_lt_of_le hrw hb1.size; clear hb1 hsl)
    obtain ⟨w0, hw0⟩ : ∃ w0 : World, w0 = w1 := ⟨_, rfl⟩
    have HW0 := Lib.hid hw0
    rw [← hw0] at m1 HSL hrw1
    clear hw0
    go_loopw [6] (fun i wr => ∃ k : Nat, k ≤ n2 ∧ i = .int .i64 (k : Int) ∧ wr = w0 ∧ Aside (∀ j (hj : j < users.length), j < k → users[j] < name)) (fun i _ => n2 - (intOf i).toNat)
    case atStart => exact ⟨0, Nat.zero_le _, rfl, HW0.out.symm, fun j _ h => absurd h (Nat.not_lt_zero _)⟩
    case round =>
      obtain ⟨k, hk, rfl, rfl, hlo⟩ := hrel
      by_cases hlt : k < n2
      · obtain ⟨b, off, hA, hbB, hl, c0⟩ := txtAt HSL.out hlt
        have HLO := Lib.hid (fun (e : users[k] < name) => show ∀ j (hj : j < users.length), j < k + 1 → users[j] < name from fun j hj hjk => by
          rcases Nat.lt_or_ge j k with h | h
          · exact hlo.out j hj h
          · obtain rfl : j = k := by omega
            exact e)
        have HHI := Lib.hid (fun (e : ¬ users[k] < name) => aheadN_eq users name k (by have := HUN.out; omega) hlo.out (fun _ => e))
        have HGE := Lib.hid (show users[k]? = some users[k] from List.getElem?_eq_getElem hl)
        have hcmp := less_str users[k] name
        have hcmp2 := bytesLess_txt users[k] name
        subst hA
        generalize users[k] = x at *
        have tx : (ByteArray.mk x.toArray).toList = x := Go.ByteArray.toList_eq _
        have ty : (ByteArray.mk name.toArray).toList = name := Go.ByteArray.toList_eq _
        by_cases hxl : x < name
        · rw [decide_eq_true hxl] at hcmp hcmp2
          have HT := Lib.hid (HLO.out hxl)
          clear hxl
          go_wp2_with (fail)
          exact ⟨⟨k + 1, by omega, by go_num, by first | rfl | trivial, HT.out⟩, by simp [intOf]; omega⟩
        · rw [decide_eq_false hxl] at hcmp hcmp2
          have HK := Lib.hid (HHI.out hxl)
          clear hxl
          cases hxe : (x == name) with
          | true =>
            have HX := Lib.hid (show doUser s name = (s, 0) by rw [HD.out k HK.out.symm, if_pos (by rw [HGE.out]; simpa using hxe)])
            go_wp2_with (fail)
            go_ret
            rw [HX.out]
            exact fin.out 0 _ (HW0.out ▸ HB1.out)
          | false =>
            have HNE := Lib.hid (show ¬ users[k]? = some name by rw [HGE.out]; intro h; injection h with h; rw [h] at hxe; simp at hxe)
            by_cases h16 : n2 = 16
            · have HX := Lib.hid (show doUser s name = (s, 70) by rw [HD.out k HK.out.symm, if_neg HNE.out, if_pos (by have := HUN.out; omega)])
              have h16b : ((n2 : Int) == 16) = true := by rw [h16]; rfl
              clear h16
              go_wp2_with (fail)
              go_ret
              rw [HX.out]
              exact fin.out 70 _ (HW0.out ▸ HB1.out)
            · have HX := Lib.hid (show doUser s name = (⟨s.files, insA s.users k name, s.units, s.plan⟩, 0) by rw [HD.out k HK.out.symm, if_neg HNE.out, if_neg (by have := HUN.out; omega)])
              have h16b : ((n2 : Int) == 16) = false := by rw [beq_eq_false_iff_ne]; omega
              have HVr : Hid (RefV wr R r s ⟨A, n, c, es, some ⟨b, off, none⟩, n2, c2, users, A3, n3, c3, us⟩ pA pn pc) := HW0.out ▸ HB2.out HB1.out
              have HBr : Hid (Below w.heap.size w wr) := HW0.out ▸ HB1.out
              have hx1 : ∀ u ∈ (#[Value.string ⟨name.toArray⟩] : Array Value).toList, u.oneCell' = true := fun u hu => by rw [List.mem_singleton.1 hu]; rfl
              obtain ⟨a1, ac1, aw1, a2, ac2, aw2, a3, ac3, aw3, SA⟩ := put3_a rowT_txt (w := wr) HSL.out (Nat.le_refl _) (strs_one users) hn62 hk (xc := #[.string ⟨name.toArray⟩]) rfl hx1
              obtain ⟨b1, bc1, bw1, b2, bc2, bw2, b3, bc3, bw3, SB⟩ := put3_b rowT_txt (w := wr) HSL.out (Nat.le_refl _) (strs_one users) hn62 hk (xc := #[.string ⟨name.toArray⟩]) rfl hx1
              obtain ⟨d1, dc1, dw1, d2, dc2, dw2, d3, dc3, dw3, SC⟩ := put3_c rowT_txt (w := wr) HSL.out (Nat.le_refl _) (strs_one users) hn62 hk (xc := #[.string ⟨name.toArray⟩]) rfl hx1
              have qa1 := (HVr.out.below SA.bel1).facts.2.1
              have qa2 := (HVr.out.below SA.bel2).facts.2.1
              have qa3 := (HVr.out.below SA.bel).facts.2.1
              have qaf := (HVr.out.below SA.bel).facts.2.2.2.2 1
              have qb1 := (HVr.out.below SB.bel1).facts.2.1
              have qb2 := (HVr.out.below SB.bel2).facts.2.1
              have qb3 := (HVr.out.below SB.bel).facts.2.1
              have qbf := (HVr.out.below SB.bel).facts.2.2.2.2 1
              have qc1 := (HVr.out.below SC.bel1).facts.2.1
              have qc2 := (HVr.out.below SC.bel2).facts.2.1
              have qc3 := (HVr.out.below SC.bel).facts.2.1
              have qcf := (HVr.out.below SC.bel).facts.2.2.2.2 1
              have qr1 : r < dw1.heap.size := Nat.lt_of_lt_of_le hrw1 SC.bel1.size
              simp only at qa1 qa2 qa3 qb1 qb2 qb3 qc1 qc2 qc3
              have HPA := Lib.hid (user_end HVr.out HBr.out hrw (k := k) (name := name) SA.own SA.bel)
              have HPB := Lib.hid (user_end HVr.out HBr.out hrw (k := k) (name := name) SB.own SB.bel)
              have HPC := Lib.hid (user_end HVr.out HBr.out hrw (k := k) (name := name) SC.own SC.bel)
              have HA1 := Lib.hid SA.r1
              have HA2 := Lib.hid SA.r2
              have HA3 := Lib.hid SA.r3
              have HB1' := Lib.hid SB.r1
              have HB2' := Lib.hid SB.r2
              have HB3' := Lib.hid SB.r3
              have HC1 := Lib.hid SC.r1
              have HC2 := Lib.hid SC.r2
              have HC3 := Lib.hid SC.r3
              have hnc := HSL.out.le
              have hcl := cut_low rowT_txt (A := some ⟨b, off, none⟩) (n := n2) (c := c2) (k := k) (z := (k : Int)) rfl (by omega)
              have hch := cut_high rowT_txt (A := some ⟨b, off, none⟩) (n := n2) (c := c2) (k := k) (z := (k : Int)) rfl (by omega)
              have hkn : k ≤ n2 := hk
              have hx2 : ¬ users = users → False := fun h => h rfl
              clear SA SB SC h16 hx1 fin H HN HL HU HB2 HM HD HB1 HSL hlo HLO HHI HGE hbB HK HNE HVr HBr HUN HUS HW0 hl hx2
              go_wp2_with (fail)
              refine wp_region_K (fun W' => W'.cell? ⟨r, 1, none⟩ = some (.slice (some ⟨b, off, none⟩) n2 c2)) 24 (by kernel_rfl) m1 (fun hS9 => ?_)
              try simp only [Act.put, List.setIfInBounds_toArray, List.set_cons_zero, List.set_cons_succ]
              refine wpAnyK_take (i := 0) (v := ?_) [21, 22, 23, 24] rfl (by kernel_rfl) (fun _ _ _ h => h) (Or.inl ⟨by rfl, ?_⟩) (by assumption) ?_
              rotate_left
              focus (intro w9 hSw; (try dsimp only at hSw); go_simp; (try with_reducible rfl))
              try simp only [Act.put, List.setIfInBounds_toArray, List.set_cons_zero, List.set_cons_succ]
              refine wpAnyK_take (i := 2) (v := ?_) [3, 4, 5, 6, 8, 9, 12, 20, 24] rfl (by kernel_rfl) (fun _ _ _ h => h) (Or.inl ⟨by rfl, ?_⟩) (by assumption) ?_
              rotate_left
              focus (intro w9 hSw; (try dsimp only at hSw); go_simp; (try with_reducible rfl))
              try simp only [Act.put, List.setIfInBounds_toArray, List.set_cons_zero, List.set_cons_succ]
              refine wpAnyK_take (i := 3) (v := ?_) [4, 5, 6, 8, 9, 12, 20, 24] rfl (by kernel_rfl) (fun _ _ _ h => h) (Or.inl ⟨by rfl, ?_⟩) (by assumption) ?_
              rotate_left
              focus (intro w9 hSw; (try dsimp only at hSw); go_simp; (try with_reducible rfl))
              try simp only [Act.put, List.setIfInBounds_toArray, List.set_cons_zero, List.set_cons_succ]
              refine wpAnyK_take (i := 4) (v := ?_) [5, 6, 8, 9, 12, 20, 24] rfl (by kernel_rfl) (fun _ _ _ h => h) (Or.inl ⟨by rfl, ?_⟩) (by assumption) ?_
              rotate_left
              focus (intro w9 hSw; (try dsimp only at hSw); go_simp; (try with_reducible rfl))
              try simp only [Act.put, List.setIfInBounds_toArray, List.set_cons_zero, List.set_cons_succ]
              refine wpAnyK_take (i := 5) (v := ?_) [6, 8, 9, 12, 20, 24] rfl (by kernel_rfl) (fun _ _ _ h => h) (Or.inl ⟨by rfl, ?_⟩) (by assumption) ?_
              rotate_left
              focus (intro w9 hSw; (try dsimp only at hSw); go_simp; (try with_reducible rfl))
              try simp only [Act.put, List.setIfInBounds_toArray, List.set_cons_zero, List.set_cons_succ]
              refine wpAnyK_take (i := 6) (v := ?_) [8, 9, 12, 20, 24] rfl (by kernel_rfl) (fun _ _ _ h => h) (Or.inl ⟨by rfl, ?_⟩) (by assumption) ?_
              rotate_left
              focus (intro w9 hSw; (try dsimp only at hSw); go_simp; (try with_reducible rfl))
              try simp only [Act.put, List.setIfInBounds_toArray, List.set_cons_zero, List.set_cons_succ]
              refine wpAnyK_take (i := 7) (v := ?_) [8, 9, 12, 20, 24] rfl (by kernel_rfl) (fun _ _ _ h => h) (Or.inl ⟨by rfl, ?_⟩) (by assumption) ?_
              rotate_left
              focus (intro w9 hSw; (try dsimp only at hSw); go_simp; (try with_reducible rfl))
              try simp only [Act.put, List.setIfInBounds_toArray, List.set_cons_zero, List.set_cons_succ]
              refine wpAnyK_take (i := 8) (v := ?_) [9, 12, 20, 24] rfl (by kernel_rfl) (fun _ _ _ h => h) (Or.inl ⟨by rfl, ?_⟩) (by assumption) ?_
              rotate_left
              focus (intro w9 hSw; (try dsimp only at hSw); go_simp; (try with_reducible rfl))
              try simp only [Act.put, List.setIfInBounds_toArray, List.set_cons_zero, List.set_cons_succ]
              refine wpAnyK_take (i := 10) (v := ?_) [11, 12, 20, 24] rfl (by kernel_rfl) (fun _ _ _ h => h) (Or.inl ⟨by rfl, ?_⟩) (by assumption) ?_
              rotate_left
              focus (intro w9 hSw; (try dsimp only at hSw); go_simp; (try with_reducible rfl))
              try simp only [Act.put, List.setIfInBounds_toArray, List.set_cons_zero, List.set_cons_succ]
              refine wpAnyK_take (i := 13) (v := ?_) [14, 15, 16, 17, 19, 20, 24] rfl (by kernel_rfl) (fun _ _ _ h => h) (Or.inl ⟨by rfl, ?_⟩) (by assumption) ?_
              rotate_left
              focus (intro w9 hSw; (try dsimp only at hSw); go_simp; (try with_reducible rfl))
              try simp only [Act.put, List.setIfInBounds_toArray, List.set_cons_zero, List.set_cons_succ]
              refine wpAnyK_take (i := 14) (v := ?_) [15, 16, 17, 19, 20, 24] rfl (by kernel_rfl) (fun _ _ _ h => h) (Or.inl ⟨by rfl, ?_⟩) (by assumption) ?_
              rotate_left
              focus (intro w9 hSw; (try dsimp only at hSw); go_simp; (try with_reducible rfl))
              try simp only [Act.put, List.setIfInBounds_toArray, List.set_cons_zero, List.set_cons_succ]
              refine wpAnyK_take (i := 15) (v := ?_) [16, 17, 19, 20, 24] rfl (by kernel_rfl) (fun _ _ _ h => h) (Or.inl ⟨by rfl, ?_⟩) (by assumption) ?_
              rotate_left
              focus (intro w9 hSw; (try dsimp only at hSw); go_simp; (try with_reducible rfl))
              try simp only [Act.put, List.setIfInBounds_toArray, List.set_cons_zero, List.set_cons_succ]
              refine wpAnyK_take (i := 16) (v := ?_) [17, 19, 20, 24] rfl (by kernel_rfl) (fun _ _ _ h => h) (Or.inl ⟨by rfl, ?_⟩) (by assumption) ?_
              rotate_left
              focus (intro w9 hSw; (try dsimp only at hSw); go_simp; (try with_reducible rfl))
              try simp only [Act.put, List.setIfInBounds_toArray, List.set_cons_zero, List.set_cons_succ]
              refine wpAnyK_take (i := 17) (v := ?_) [19, 20, 24] rfl (by kernel_rfl) (fun _ _ _ h => h) (Or.inl ⟨by rfl, ?_⟩) (by assumption) ?_
              rotate_left
              focus (intro w9 hSw; (try dsimp only at hSw); go_simp; (try with_reducible rfl))
              try simp only [Act.put, List.setIfInBounds_toArray, List.set_cons_zero, List.set_cons_succ]
              refine wpAnyK_take (i := 18) (v := ?_) [19, 20, 24] rfl (by kernel_rfl) (fun _ _ _ h => h) (Or.inl ⟨by rfl, ?_⟩) (by assumption) ?_
              rotate_left
              focus (intro w9 hSw; (try dsimp only at hSw); go_simp; (try with_reducible rfl))
              try simp only [Act.put, List.setIfInBounds_toArray, List.set_cons_zero, List.set_cons_succ]
              refine wpAnyK_take (i := 19) (v := ?_) [20, 24] rfl (by kernel_rfl) (fun _ _ _ h => h) (Or.inl ⟨by rfl, ?_⟩) (by assumption) ?_
              rotate_left
              focus (intro w9 hSw; (try dsimp only at hSw); go_simp; (try with_reducible rfl))
              try simp only [Act.put, List.setIfInBounds_toArray, List.set_cons_zero, List.set_cons_succ]
              refine wpAnyK_two (i := 1) (i' := 11) (by kernel_rfl) rfl rfl (fun K9 hK9 => ?_) (fun K9 hK9 => ?_)
              · go_simp
                refine hK9.out _ _ (fun _ => (cells_alloc hrw1 _ 1).trans m1) (fun hS9 => ?_)
                try simp only [Act.put, List.setIfInBounds_toArray, List.set_cons_zero, List.set_cons_succ]
                refine wpAnyK_two (i := 9) (i' := 11) (by kernel_rfl) rfl rfl (fun K9 hK9 => ?_) (fun K9 hK9 => ?_)
                · refine step_append_at (by rfl) _ _ _ (by rfl) HC1.out (by with_reducible rfl) (by rfl) (by rfl) (by rfl) ?_
                  refine hK9.out _ _ (fun _ => qc1) (fun hS9 => ?_)
                  try simp only [Act.put, List.setIfInBounds_toArray, List.set_cons_zero, List.set_cons_succ]
                  refine wpAnyK_one (i := 11) (by kernel_rfl) rfl (fun K9 hK9 => ?_)
                  go_simp
                  refine hK9.out _ _ (fun _ => (cells_alloc qr1 _ 1).trans qc1) (fun hS9 => ?_)
                  try simp only [Act.put, List.setIfInBounds_toArray, List.set_cons_zero, List.set_cons_succ]
                  refine wpAnyK_one (i := 12) (by kernel_rfl) rfl (fun K9 hK9 => ?_)
                  refine step_append_at (by rfl) _ _ _ (by rfl) HC2.out (by with_reducible rfl) (by rfl) (by rfl) (by rfl) ?_
                  refine hK9.out _ _ (fun _ => qc2) (fun hS9 => ?_)
                  try simp only [Act.put, List.setIfInBounds_toArray, List.set_cons_zero, List.set_cons_succ]
                  refine wpAnyK_one (i := 20) (by kernel_rfl) rfl (fun K9 hK9 => ?_)
                  refine step_append_at (by rfl) _ _ _ (by rfl) HC3.out (by with_reducible rfl) (by rfl) (by rfl) (by rfl) ?_
                  refine hK9.out _ _ (fun _ => qc3) (fun hS9 => ?_)
                  try simp only [Act.put, List.setIfInBounds_toArray, List.set_cons_zero, List.set_cons_succ]
                  refine wpAnyK_take (i := 21) (v := ?_) [22, 23, 24] rfl (by kernel_rfl) (fun _ _ _ h => h) (Or.inl ⟨by rfl, ?_⟩) (by assumption) ?_
                  rotate_left
                  focus (intro w9 hSw; (try dsimp only at hSw); go_simp; (try with_reducible rfl))
                  try simp only [Act.put, List.setIfInBounds_toArray, List.set_cons_zero, List.set_cons_succ]
                  refine wpAnyK_take (i := 22) (v := ?_) [23, 24] rfl (by kernel_rfl) (fun _ _ _ h => h) (Or.inl ⟨by rfl, ?_⟩) (by assumption) ?_
                  rotate_left
                  focus (intro w9 hSw; (try dsimp only at hSw); go_simp; (try with_reducible rfl))
                  try simp only [Act.put, List.setIfInBounds_toArray, List.set_cons_zero, List.set_cons_succ]
                  refine wpAnyK_take (i := 23) (v := ?_) [24] rfl (by kernel_rfl) (fun _ _ _ h => h) (Or.inl ⟨by rfl, ?_⟩) (by assumption) ?_
                  rotate_left
                  focus (intro w9 hSw; (try dsimp only at hSw); go_simp; (try with_reducible rfl))
                  try simp only [Act.put, List.setIfInBounds_toArray, List.set_cons_zero, List.set_cons_succ]
                  refine wpAnyK_one (i := 24) (by kernel_rfl) rfl (fun K9 hK9 => ?_)
                  go_simp
                  refine hK9.out _ _ (fun h9 => absurd rfl h9) (fun hS9 => ?_)
                  try simp only [Act.put, List.setIfInBounds_toArray, List.set_cons_zero, List.set_cons_succ]
                  refine wpAnyK_done (by kernel_rfl) ?_ _
                  go_wp2
                  go_ret
                  rw [HX.out]
                  exact HPC.out
                · go_simp
                  refine hK9.out _ _ (fun _ => (cells_alloc (Nat.lt_of_lt_of_le hrw1 (by simp)) _ 1).trans ((cells_alloc hrw1 _ 1).trans m1)) (fun hS9 => ?_)
                  try simp only [Act.put, List.setIfInBounds_toArray, List.set_cons_zero, List.set_cons_succ]
                  refine wpAnyK_one (i := 9) (by kernel_rfl) rfl (fun K9 hK9 => ?_)
                  refine step_append_at (by rfl) _ _ _ (by rfl) HB1'.out (by with_reducible rfl) (by rfl) (by rfl) (by rfl) ?_
                  refine hK9.out _ _ (fun _ => qb1) (fun hS9 => ?_)
                  try simp only [Act.put, List.setIfInBounds_toArray, List.set_cons_zero, List.set_cons_succ]
                  refine wpAnyK_one (i := 12) (by kernel_rfl) rfl (fun K9 hK9 => ?_)
                  refine step_append_at (by rfl) _ _ _ (by rfl) HB2'.out (by with_reducible rfl) (by rfl) (by rfl) (by rfl) ?_
                  refine hK9.out _ _ (fun _ => qb2) (fun hS9 => ?_)
                  try simp only [Act.put, List.setIfInBounds_toArray, List.set_cons_zero, List.set_cons_succ]
                  refine wpAnyK_one (i := 20) (by kernel_rfl) rfl (fun K9 hK9 => ?_)
                  refine step_append_at (by rfl) _ _ _ (by rfl) HB3'.out (by with_reducible rfl) (by rfl) (by rfl) (by rfl) ?_
                  refine hK9.out _ _ (fun _ => qb3) (fun hS9 => ?_)
                  try simp only [Act.put, List.setIfInBounds_toArray, List.set_cons_zero, List.set_cons_succ]
                  refine wpAnyK_take (i := 21) (v := ?_) [22, 23, 24] rfl (by kernel_rfl) (fun _ _ _ h => h) (Or.inl ⟨by rfl, ?_⟩) (by assumption) ?_
                  rotate_left
                  focus (intro w9 hSw; (try dsimp only at hSw); go_simp; (try with_reducible rfl))
                  try simp only [Act.put, List.setIfInBounds_toArray, List.set_cons_zero, List.set_cons_succ]
                  refine wpAnyK_take (i := 22) (v := ?_) [23, 24] rfl (by kernel_rfl) (fun _ _ _ h => h) (Or.inl ⟨by rfl, ?_⟩) (by assumption) ?_
                  rotate_left
                  focus (intro w9 hSw; (try dsimp only at hSw); go_simp; (try with_reducible rfl))
                  try simp only [Act.put, List.setIfInBounds_toArray, List.set_cons_zero, List.set_cons_succ]
                  refine wpAnyK_take (i := 23) (v := ?_) [24] rfl (by kernel_rfl) (fun _ _ _ h => h) (Or.inl ⟨by rfl, ?_⟩) (by assumption) ?_
                  rotate_left
                  focus (intro w9 hSw; (try dsimp only at hSw); go_simp; (try with_reducible rfl))
                  try simp only [Act.put, List.setIfInBounds_toArray, List.set_cons_zero, List.set_cons_succ]
                  refine wpAnyK_one (i := 24) (by kernel_rfl) rfl (fun K9 hK9 => ?_)
                  go_simp
                  refine hK9.out _ _ (fun h9 => absurd rfl h9) (fun hS9 => ?_)
                  try simp only [Act.put, List.setIfInBounds_toArray, List.set_cons_zero, List.set_cons_succ]
                  refine wpAnyK_done (by kernel_rfl) ?_ _
                  go_wp2
                  go_ret
                  rw [HX.out]
                  exact HPB.out
              · go_simp
                refine hK9.out _ _ (fun _ => (cells_alloc hrw1 _ 1).trans m1) (fun hS9 => ?_)
                try simp only [Act.put, List.setIfInBounds_toArray, List.set_cons_zero, List.set_cons_succ]
                refine wpAnyK_one (i := 1) (by kernel_rfl) rfl (fun K9 hK9 => ?_)
                go_simp
                refine hK9.out _ _ (fun _ => (cells_alloc (Nat.lt_of_lt_of_le hrw1 (by simp)) _ 1).trans ((cells_alloc hrw1 _ 1).trans m1)) (fun hS9 => ?_)
                try simp only [Act.put, List.setIfInBounds_toArray, List.set_cons_zero, List.set_cons_succ]
                refine wpAnyK_one (i := 9) (by kernel_rfl) rfl (fun K9 hK9 => ?_)
                refine step_append_at (by rfl) _ _ _ (by rfl) HA1.out (by with_reducible rfl) (by rfl) (by rfl) (by rfl) ?_
                refine hK9.out _ _ (fun _ => qa1) (fun hS9 => ?_)
                try simp only [Act.put, List.setIfInBounds_toArray, List.set_cons_zero, List.set_cons_succ]
                refine wpAnyK_one (i := 12) (by kernel_rfl) rfl (fun K9 hK9 => ?_)
                refine step_append_at (by rfl) _ _ _ (by rfl) HA2.out (by with_reducible rfl) (by rfl) (by rfl) (by rfl) ?_
                refine hK9.out _ _ (fun _ => qa2) (fun hS9 => ?_)
                try simp only [Act.put, List.setIfInBounds_toArray, List.set_cons_zero, List.set_cons_succ]
                refine wpAnyK_one (i := 20) (by kernel_rfl) rfl (fun K9 hK9 => ?_)
                refine step_append_at (by rfl) _ _ _ (by rfl) HA3.out (by with_reducible rfl) (by rfl) (by rfl) (by rfl) ?_
                refine hK9.out _ _ (fun _ => qa3) (fun hS9 => ?_)
                try simp only [Act.put, List.setIfInBounds_toArray, List.set_cons_zero, List.set_cons_succ]
                refine wpAnyK_take (i := 21) (v := ?_) [22, 23, 24] rfl (by kernel_rfl) (fun _ _ _ h => h) (Or.inl ⟨by rfl, ?_⟩) (by assumption) ?_
                rotate_left
                focus (intro w9 hSw; (try dsimp only at hSw); go_simp; (try with_reducible rfl))
                try simp only [Act.put, List.setIfInBounds_toArray, List.set_cons_zero, List.set_cons_succ]
                refine wpAnyK_take (i := 22) (v := ?_) [23, 24] rfl (by kernel_rfl) (fun _ _ _ h => h) (Or.inl ⟨by rfl, ?_⟩) (by assumption) ?_
                rotate_left
                focus (intro w9 hSw; (try dsimp only at hSw); go_simp; (try with_reducible rfl))
                try simp only [Act.put, List.setIfInBounds_toArray, List.set_cons_zero, List.set_cons_succ]
                refine wpAnyK_take (i := 23) (v := ?_) [24] rfl (by kernel_rfl) (fun _ _ _ h => h) (Or.inl ⟨by rfl, ?_⟩) (by assumption) ?_
                rotate_left
                focus (intro w9 hSw; (try dsimp only at hSw); go_simp; (try with_reducible rfl))
                try simp only [Act.put, List.setIfInBounds_toArray, List.set_cons_zero, List.set_cons_succ]
                refine wpAnyK_one (i := 24) (by kernel_rfl) rfl (fun K9 hK9 => ?_)
                go_simp
                refine hK9.out _ _ (fun h9 => absurd rfl h9) (fun hS9 => ?_)
                try simp only [Act.put, List.setIfInBounds_toArray, List.set_cons_zero, List.set_cons_succ]
                refine wpAnyK_done (by kernel_rfl) ?_ _
                go_wp2
                go_ret
                rw [HX.out]
                exact HPA.out
      · obtain rfl : k = n2 := by omega
        have HK := Lib.hid (aheadN_eq users name k (by have := HUN.out; omega) hlo.out (fun h => absurd h (by have := HUN.out; omega)))
        have HNE := Lib.hid (show ¬ users[k]? = some name by rw [List.getElem?_eq_none (by have := HUN.out; omega)]; intro h; cases h)
        by_cases h16 : k = 16
        · have HX := Lib.hid (show doUser s name = (s, 70) by rw [HD.out k HK.out.symm, if_neg HNE.out, if_pos (by have := HUN.out; omega)])
          have h16b : ((k : Int) == 16) = true := by rw [h16]; rfl
          clear h16
          go_wp2_with (fail)
          go_ret
          rw [HX.out]
          exact fin.out 70 _ (HW0.out ▸ HB1.out)
        · have HX := Lib.hid (show doUser s name = (⟨s.files, insA s.users k name, s.units, s.plan⟩, 0) by rw [HD.out k HK.out.symm, if_neg HNE.out, if_neg (by have := HUN.out; omega)])
          have h16b : ((k : Int) == 16) = false := by rw [beq_eq_false_iff_ne]; omega
          have HVr : Hid (RefV wr R r s ⟨A, n, c, es, A2, k, c2, users, A3, n3, c3, us⟩ pA pn pc) := HW0.out ▸ HB2.out HB1.out
          have HBr : Hid (Below w.heap.size w wr) := HW0.out ▸ HB1.out
          have hx1 : ∀ u ∈ (#[Value.string ⟨name.toArray⟩] : Array Value).toList, u.oneCell' = true := fun u hu => by rw [List.mem_singleton.1 hu]; rfl
          obtain ⟨a1, ac1, aw1, a2, ac2, aw2, a3, ac3, aw3, SA⟩ := put3_a rowT_txt (w := wr) HSL.out (Nat.le_refl _) (strs_one users) hn62 hk (xc := #[.string ⟨name.toArray⟩]) rfl hx1
          obtain ⟨b1, bc1, bw1, b2, bc2, bw2, b3, bc3, bw3, SB⟩ := put3_b rowT_txt (w := wr) HSL.out (Nat.le_refl _) (strs_one users) hn62 hk (xc := #[.string ⟨name.toArray⟩]) rfl hx1
          obtain ⟨d1, dc1, dw1, d2, dc2, dw2, d3, dc3, dw3, SC⟩ := put3_c rowT_txt (w := wr) HSL.out (Nat.le_refl _) (strs_one users) hn62 hk (xc := #[.string ⟨name.toArray⟩]) rfl hx1
          have qa1 := (HVr.out.below SA.bel1).facts.2.1
          have qa2 := (HVr.out.below SA.bel2).facts.2.1
          have qa3 := (HVr.out.below SA.bel).facts.2.1
          have qaf := (HVr.out.below SA.bel).facts.2.2.2.2 1
          have qb1 := (HVr.out.below SB.bel1).facts.2.1
          have qb2 := (HVr.out.below SB.bel2).facts.2.1
          have qb3 := (HVr.out.below SB.bel).facts.2.1
          have qbf := (HVr.out.below SB.bel).facts.2.2.2.2 1
          have qc1 := (HVr.out.below SC.bel1).facts.2.1
          have qc2 := (HVr.out.below SC.bel2).facts.2.1
          have qc3 := (HVr.out.below SC.bel).facts.2.1
          have qcf := (HVr.out.below SC.bel).facts.2.2.2.2 1
          have qr1 : r < dw1.heap.size := Nat.lt_of_lt_of_le hrw1 SC.bel1.size
          simp only at qa1 qa2 qa3 qb1 qb2 qb3 qc1 qc2 qc3
          have HPA := Lib.hid (user_end HVr.out HBr.out hrw (k := k) (name := name) SA.own SA.bel)
          have HPB := Lib.hid (user_end HVr.out HBr.out hrw (k := k) (name := name) SB.own SB.bel)
          have HPC := Lib.hid (user_end HVr.out HBr.out hrw (k := k) (name := name) SC.own SC.bel)
          have HA1 := Lib.hid SA.r1
          have HA2 := Lib.hid SA.r2
          have HA3 := Lib.hid SA.r3
          have HB1' := Lib.hid SB.r1
          have HB2' := Lib.hid SB.r2
          have HB3' := Lib.hid SB.r3
          have HC1 := Lib.hid SC.r1
          have HC2 := Lib.hid SC.r2
          have HC3 := Lib.hid SC.r3
          have hnc := HSL.out.le
          have hcl := cut_low rowT_txt (A := A2) (n := k) (c := c2) (k := k) (z := (k : Int)) rfl (by omega)
          have hch := cut_high rowT_txt (A := A2) (n := k) (c := c2) (k := k) (z := (k : Int)) rfl (by omega)
          clear SA SB SC h16 hx1 fin H HN HL HU HB2 HM HD HB1 HSL hlo HK HNE HVr HBr HUN HUS HW0
          go_wp2_with (fail)
          refine wp_region_K (fun W' => W'.cell? ⟨r, 1, none⟩ = some (.slice A2 k c2)) 24 (by kernel_rfl) m1 (fun hS9 => ?_)
          try simp only [Act.put, List.setIfInBounds_toArray, List.set_cons_zero, List.set_cons_succ]
          refine wpAnyK_take (i := 0) (v := ?_) [21, 22, 23, 24] rfl (by kernel_rfl) (fun _ _ _ h => h) (Or.inl ⟨by rfl, ?_⟩) (by assumption) ?_
          rotate_left
          focus (intro w9 hSw; (try dsimp only at hSw); go_simp; (try with_reducible rfl))
          try simp only [Act.put, List.setIfInBounds_toArray, List.set_cons_zero, List.set_cons_succ]
          refine wpAnyK_take (i := 2) (v := ?_) [3, 4, 5, 6, 8, 9, 12, 20, 24] rfl (by kernel_rfl) (fun _ _ _ h => h) (Or.inl ⟨by rfl, ?_⟩) (by assumption) ?_
          rotate_left
          focus (intro w9 hSw; (try dsimp only at hSw); go_simp; (try with_reducible rfl))
          try simp only [Act.put, List.setIfInBounds_toArray, List.set_cons_zero, List.set_cons_succ]
          refine wpAnyK_take (i := 3) (v := ?_) [4, 5, 6, 8, 9, 12, 20, 24] rfl (by kernel_rfl) (fun _ _ _ h => h) (Or.inl ⟨by rfl, ?_⟩) (by assumption) ?_
          rotate_left
          focus (intro w9 hSw; (try dsimp only at hSw); go_simp; (try with_reducible rfl))
          try simp only [Act.put, List.setIfInBounds_toArray, List.set_cons_zero, List.set_cons_succ]
          refine wpAnyK_take (i := 4) (v := ?_) [5, 6, 8, 9, 12, 20, 24] rfl (by kernel_rfl) (fun _ _ _ h => h) (Or.inl ⟨by rfl, ?_⟩) (by assumption) ?_
          rotate_left
          focus (intro w9 hSw; (try dsimp only at hSw); go_simp; (try with_reducible rfl))
          try simp only [Act.put, List.setIfInBounds_toArray, List.set_cons_zero, List.set_cons_succ]
          refine wpAnyK_take (i := 5) (v := ?_) [6, 8, 9, 12, 20, 24] rfl (by kernel_rfl) (fun _ _ _ h => h) (Or.inl ⟨by rfl, ?_⟩) (by assumption) ?_
          rotate_left
          focus (intro w9 hSw; (try dsimp only at hSw); go_simp; (try with_reducible rfl))
          try simp only [Act.put, List.setIfInBounds_toArray, List.set_cons_zero, List.set_cons_succ]
          refine wpAnyK_take (i := 6) (v := ?_) [8, 9, 12, 20, 24] rfl (by kernel_rfl) (fun _ _ _ h => h) (Or.inl ⟨by rfl, ?_⟩) (by assumption) ?_
          rotate_left
          focus (intro w9 hSw; (try dsimp only at hSw); go_simp; (try with_reducible rfl))
          try simp only [Act.put, List.setIfInBounds_toArray, List.set_cons_zero, List.set_cons_succ]
          refine wpAnyK_take (i := 7) (v := ?_) [8, 9, 12, 20, 24] rfl (by kernel_rfl) (fun _ _ _ h => h) (Or.inl ⟨by rfl, ?_⟩) (by assumption) ?_
          rotate_left
          focus (intro w9 hSw; (try dsimp only at hSw); go_simp; (try with_reducible rfl))
          try simp only [Act.put, List.setIfInBounds_toArray, List.set_cons_zero, List.set_cons_succ]
          refine wpAnyK_take (i := 8) (v := ?_) [9, 12, 20, 24] rfl (by kernel_rfl) (fun _ _ _ h => h) (Or.inl ⟨by rfl, ?_⟩) (by assumption) ?_
          rotate_left
          focus (intro w9 hSw; (try dsimp only at hSw); go_simp; (try with_reducible rfl))
          try simp only [Act.put, List.setIfInBounds_toArray, List.set_cons_zero, List.set_cons_succ]
          refine wpAnyK_take (i := 10) (v := ?_) [11, 12, 20, 24] rfl (by kernel_rfl) (fun _ _ _ h => h) (Or.inl ⟨by rfl, ?_⟩) (by assumption) ?_
          rotate_left
          focus (intro w9 hSw; (try dsimp only at hSw); go_simp; (try with_reducible rfl))
          try simp only [Act.put, List.setIfInBounds_toArray, List.set_cons_zero, List.set_cons_succ]
          refine wpAnyK_take (i := 13) (v := ?_) [14, 15, 16, 17, 19, 20, 24] rfl (by kernel_rfl) (fun _ _ _ h => h) (Or.inl ⟨by rfl, ?_⟩) (by assumption) ?_
          rotate_left
          focus (intro w9 hSw; (try dsimp only at hSw); go_simp; (try with_reducible rfl))
          try simp only [Act.put, List.setIfInBounds_toArray, List.set_cons_zero, List.set_cons_succ]
          refine wpAnyK_take (i := 14) (v := ?_) [15, 16, 17, 19, 20, 24] rfl (by kernel_rfl) (fun _ _ _ h => h) (Or.inl ⟨by rfl, ?_⟩) (by assumption) ?_
          rotate_left
          focus (intro w9 hSw; (try dsimp only at hSw); go_simp; (try with_reducible rfl))
          try simp only [Act.put, List.setIfInBounds_toArray, List.set_cons_zero, List.set_cons_succ]
          refine wpAnyK_take (i := 15) (v := ?_) [16, 17, 19, 20, 24] rfl (by kernel_rfl) (fun _ _ _ h => h) (Or.inl ⟨by rfl, ?_⟩) (by assumption) ?_
          rotate_left
          focus (intro w9 hSw; (try dsimp only at hSw); go_simp; (try with_reducible rfl))
          try simp only [Act.put, List.setIfInBounds_toArray, List.set_cons_zero, List.set_cons_succ]
          refine wpAnyK_take (i := 16) (v := ?_) [17, 19, 20, 24] rfl (by kernel_rfl) (fun _ _ _ h => h) (Or.inl ⟨by rfl, ?_⟩) (by assumption) ?_
          rotate_left
          focus (intro w9 hSw; (try dsimp only at hSw); go_simp; (try with_reducible rfl))
          try simp only [Act.put, List.setIfInBounds_toArray, List.set_cons_zero, List.set_cons_succ]
          refine wpAnyK_take (i := 17) (v := ?_) [19, 20, 24] rfl (by kernel_rfl) (fun _ _ _ h => h) (Or.inl ⟨by rfl, ?_⟩) (by assumption) ?_
          rotate_left
          focus (intro w9 hSw; (try dsimp only at hSw); go_simp; (try with_reducible rfl))
          try simp only [Act.put, List.setIfInBounds_toArray, List.set_cons_zero, List.set_cons_succ]
          refine wpAnyK_take (i := 18) (v := ?_) [19, 20, 24] rfl (by kernel_rfl) (fun _ _ _ h => h) (Or.inl ⟨by rfl, ?_⟩) (by assumption) ?_
          rotate_left
          focus (intro w9 hSw; (try dsimp only at hSw); go_simp; (try with_reducible rfl))
          try simp only [Act.put, List.setIfInBounds_toArray, List.set_cons_zero, List.set_cons_succ]
          refine wpAnyK_take (i := 19) (v := ?_) [20, 24] rfl (by kernel_rfl) (fun _ _ _ h => h) (Or.inl ⟨by rfl, ?_⟩) (by assumption) ?_
          rotate_left
          focus (intro w9 hSw; (try dsimp only at hSw); go_simp; (try with_reducible rfl))
          try simp only [Act.put, List.setIfInBounds_toArray, List.set_cons_zero, List.set_cons_succ]
          refine wpAnyK_two (i := 1) (i' := 11) (by kernel_rfl) rfl rfl (fun K9 hK9 => ?_) (fun K9 hK9 => ?_)
          · go_simp
            refine hK9.out _ _ (fun _ => (cells_alloc hrw1 _ 1).trans m1) (fun hS9 => ?_)
            try simp only [Act.put, List.setIfInBounds_toArray, List.set_cons_zero, List.set_cons_succ]
            refine wpAnyK_two (i := 9) (i' := 11) (by kernel_rfl) rfl rfl (fun K9 hK9 => ?_) (fun K9 hK9 => ?_)
            · refine step_append_at (by rfl) _ _ _ (by rfl) HC1.out (by with_reducible rfl) (by rfl) (by rfl) (by rfl) ?_
              refine hK9.out _ _ (fun _ => qc1) (fun hS9 => ?_)
              try simp only [Act.put, List.setIfInBounds_toArray, List.set_cons_zero, List.set_cons_succ]
              refine wpAnyK_one (i := 11) (by kernel_rfl) rfl (fun K9 hK9 => ?_)
              go_simp
              refine hK9.out _ _ (fun _ => (cells_alloc qr1 _ 1).trans qc1) (fun hS9 => ?_)
              try simp only [Act.put, List.setIfInBounds_toArray, List.set_cons_zero, List.set_cons_succ]
              refine wpAnyK_one (i := 12) (by kernel_rfl) rfl (fun K9 hK9 => ?_)
              refine step_append_at (by rfl) _ _ _ (by rfl) HC2.out (by with_reducible rfl) (by rfl) (by rfl) (by rfl) ?_
              refine hK9.out _ _ (fun _ => qc2) (fun hS9 => ?_)
              try simp only [Act.put, List.setIfInBounds_toArray, List.set_cons_zero, List.set_cons_succ]
              refine wpAnyK_one (i := 20) (by kernel_rfl) rfl (fun K9 hK9 => ?_)
              refine step_append_at (by rfl) _ _ _ (by rfl) HC3.out (by with_reducible rfl) (by rfl) (by rfl) (by rfl) ?_
              refine hK9.out _ _ (fun _ => qc3) (fun hS9 => ?_)
              try simp only [Act.put, List.setIfInBounds_toArray, List.set_cons_zero, List.set_cons_succ]
              refine wpAnyK_take (i := 21) (v := ?_) [22, 23, 24] rfl (by kernel_rfl) (fun _ _ _ h => h) (Or.inl ⟨by rfl, ?_⟩) (by assumption) ?_
              rotate_left
              focus (intro w9 hSw; (try dsimp only at hSw); go_simp; (try with_reducible rfl))
              try simp only [Act.put, List.setIfInBounds_toArray, List.set_cons_zero, List.set_cons_succ]
              refine wpAnyK_take (i := 22) (v := ?_) [23, 24] rfl (by kernel_rfl) (fun _ _ _ h => h) (Or.inl ⟨by rfl, ?_⟩) (by assumption) ?_
              rotate_left
              focus (intro w9 hSw; (try dsimp only at hSw); go_simp; (try with_reducible rfl))
              try simp only [Act.put, List.setIfInBounds_toArray, List.set_cons_zero, List.set_cons_succ]
              refine wpAnyK_take (i := 23) (v := ?_) [24] rfl (by kernel_rfl) (fun _ _ _ h => h) (Or.inl ⟨by rfl, ?_⟩) (by assumption) ?_
              rotate_left
              focus (intro w9 hSw; (try dsimp only at hSw); go_simp; (try with_reducible rfl))
              try simp only [Act.put, List.setIfInBounds_toArray, List.set_cons_zero, List.set_cons_succ]
              refine wpAnyK_one (i := 24) (by kernel_rfl) rfl (fun K9 hK9 => ?_)
              go_simp
              refine hK9.out _ _ (fun h9 => absurd rfl h9) (fun hS9 => ?_)
              try simp only [Act.put, List.setIfInBounds_toArray, List.set_cons_zero, List.set_cons_succ]
              refine wpAnyK_done (by kernel_rfl) ?_ _
              go_wp2
              go_ret
              rw [HX.out]
              exact HPC.out
            · go_simp
              refine hK9.out _ _ (fun _ => (cells_alloc (Nat.lt_of_lt_of_le hrw1 (by simp)) _ 1).trans ((cells_alloc hrw1 _ 1).trans m1)) (fun hS9 => ?_)
              try simp only [Act.put, List.setIfInBounds_toArray, List.set_cons_zero, List.set_cons_succ]
              refine wpAnyK_one (i := 9) (by kernel_rfl) rfl (fun K9 hK9 => ?_)
              refine step_append_at (by rfl) _ _ _ (by rfl) HB1'.out (by with_reducible rfl) (by rfl) (by rfl) (by rfl) ?_
              refine hK9.out _ _ (fun _ => qb1) (fun hS9 => ?_)
              try simp only [Act.put, List.setIfInBounds_toArray, List.set_cons_zero, List.set_cons_succ]
              refine wpAnyK_one (i := 12) (by kernel_rfl) rfl (fun K9 hK9 => ?_)
              refine step_append_at (by rfl) _ _ _ (by rfl) HB2'.out (by with_reducible rfl) (by rfl) (by rfl) (by rfl) ?_
              refine hK9.out _ _ (fun _ => qb2) (fun hS9 => ?_)
              try simp only [Act.put, List.setIfInBounds_toArray, List.set_cons_zero, List.set_cons_succ]
              refine wpAnyK_one (i := 20) (by kernel_rfl) rfl (fun K9 hK9 => ?_)
              refine step_append_at (by rfl) _ _ _ (by rfl) HB3'.out (by with_reducible rfl) (by rfl) (by rfl) (by rfl) ?_
              refine hK9.out _ _ (fun _ => qb3) (fun hS9 => ?_)
              try simp only [Act.put, List.setIfInBounds_toArray, List.set_cons_zero, List.set_cons_succ]
              refine wpAnyK_take (i := 21) (v := ?_) [22, 23, 24] rfl (by kernel_rfl) (fun _ _ _ h => h) (Or.inl ⟨by rfl, ?_⟩) (by assumption) ?_
              rotate_left
              focus (intro w9 hSw; (try dsimp only at hSw); go_simp; (try with_reducible rfl))
              try simp only [Act.put, List.setIfInBounds_toArray, List.set_cons_zero, List.set_cons_succ]
              refine wpAnyK_take (i := 22) (v := ?_) [23, 24] rfl (by kernel_rfl) (fun _ _ _ h => h) (Or.inl ⟨by rfl, ?_⟩) (by assumption) ?_
              rotate_left
              focus (intro w9 hSw; (try dsimp only at hSw); go_simp; (try with_reducible rfl))
              try simp only [Act.put, List.setIfInBounds_toArray, List.set_cons_zero, List.set_cons_succ]
              refine wpAnyK_take (i := 23) (v := ?_) [24] rfl (by kernel_rfl) (fun _ _ _ h => h) (Or.inl ⟨by rfl, ?_⟩) (by assumption) ?_
              rotate_left
              focus (intro w9 hSw; (try dsimp only at hSw); go_simp; (try with_reducible rfl))
              try simp only [Act.put, List.setIfInBounds_toArray, List.set_cons_zero, List.set_cons_succ]
              refine wpAnyK_one (i := 24) (by kernel_rfl) rfl (fun K9 hK9 => ?_)
              go_simp
              refine hK9.out _ _ (fun h9 => absurd rfl h9) (fun hS9 => ?_)
              try simp only [Act.put, List.setIfInBounds_toArray, List.set_cons_zero, List.set_cons_succ]
              refine wpAnyK_done (by kernel_rfl) ?_ _
              go_wp2
              go_ret
              rw [HX.out]
              exact HPB.out
          · go_simp
            refine hK9.out _ _ (fun _ => (cells_alloc hrw1 _ 1).trans m1) (fun hS9 => ?_)
            try simp only [Act.put, List.setIfInBounds_toArray, List.set_cons_zero, List.set_cons_succ]
            refine wpAnyK_one (i := 1) (by kernel_rfl) rfl (fun K9 hK9 => ?_)
            go_simp
            refine hK9.out _ _ (fun _ => (cells_alloc (Nat.lt_of_lt_of_le hrw1 (by simp)) _ 1).trans ((cells_alloc hrw1 _ 1).trans m1)) (fun hS9 => ?_)
            try simp only [Act.put, List.setIfInBounds_toArray, List.set_cons_zero, List.set_cons_succ]
            refine wpAnyK_one (i := 9) (by kernel_rfl) rfl (fun K9 hK9 => ?_)
            refine step_append_at (by rfl) _ _ _ (by rfl) HA1.out (by with_reducible rfl) (by rfl) (by rfl) (by rfl) ?_
            refine hK9.out _ _ (fun _ => qa1) (fun hS9 => ?_)
            try simp only [Act.put, List.setIfInBounds_toArray, List.set_cons_zero, List.set_cons_succ]
            refine wpAnyK_one (i := 12) (by kernel_rfl) rfl (fun K9 hK9 => ?_)
            refine step_append_at (by rfl) _ _ _ (by rfl) HA2.out (by with_reducible rfl) (by rfl) (by rfl) (by rfl) ?_
            refine hK9.out _ _ (fun _ => qa2) (fun hS9 => ?_)
            try simp only [Act.put, List.setIfInBounds_toArray, List.set_cons_zero, List.set_cons_succ]
            refine wpAnyK_one (i := 20) (by kernel_rfl) rfl (fun K9 hK9 => ?_)
            refine step_append_at (by rfl) _ _ _ (by rfl) HA3.out (by with_reducible rfl) (by rfl) (by rfl) (by rfl) ?_
            refine hK9.out _ _ (fun _ => qa3) (fun hS9 => ?_)
            try simp only [Act.put, List.setIfInBounds_toArray, List.set_cons_zero, List.set_cons_succ]
            refine wpAnyK_take (i := 21) (v := ?_) [22, 23, 24] rfl (by kernel_rfl) (fun _ _ _ h => h) (Or.inl ⟨by rfl, ?_⟩) (by assumption) ?_
            rotate_left
            focus (intro w9 hSw; (try dsimp only at hSw); go_simp; (try with_reducible rfl))
            try simp only [Act.put, List.setIfInBounds_toArray, List.set_cons_zero, List.set_cons_succ]
            refine wpAnyK_take (i := 22) (v := ?_) [23, 24] rfl (by kernel_rfl) (fun _ _ _ h => h) (Or.inl ⟨by rfl, ?_⟩) (by assumption) ?_
            rotate_left
            focus (intro w9 hSw; (try dsimp only at hSw); go_simp; (try with_reducible rfl))
            try simp only [Act.put, List.setIfInBounds_toArray, List.set_cons_zero, List.set_cons_succ]
            refine wpAnyK_take (i := 23) (v := ?_) [24] rfl (by kernel_rfl) (fun _ _ _ h => h) (Or.inl ⟨by rfl, ?_⟩) (by assumption) ?_
            rotate_left
            focus (intro w9 hSw; (try dsimp only at hSw); go_simp; (try with_reducible rfl))
            try simp only [Act.put, List.setIfInBounds_toArray, List.set_cons_zero, List.set_cons_succ]
            refine wpAnyK_one (i := 24) (by kernel_rfl) rfl (fun K9 hK9 => ?_)
            go_simp
            refine hK9.out _ _ (fun h9 => absurd rfl h9) (fun hS9 => ?_)
            try simp only [Act.put, List.setIfInBounds_toArray, List.set_cons_zero, List.set_cons_succ]
            refine wpAnyK_done (by kernel_rfl) ?_ _
            go_wp2
            go_ret
            rw [HX.out]
            exact HPA.out
end
end
end Go.Proofs.YtibndaianhlcaaaGreatDoor
