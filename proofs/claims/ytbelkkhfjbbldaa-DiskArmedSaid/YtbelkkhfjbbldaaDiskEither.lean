/- The walk of the law DiskEither. -/
import Derived.Test.YtbelkkhfjbbldaaDiskEPlain
namespace Go.Proofs.Ytbelkkhfjbbldaa
open Go.RowKit Go.ChangeShapes Go.WideShapes
set_option linter.unusedVariables false
set_option linter.unusedSimpArgs false

theorem nonneg_of (x : Int) (hx : -9223372036854775808 ≤ x ∧ x ≤ 9223372036854775807) : ∃ q : Nat, q ≤ 9223372036854775807 ∧ ((x < 0 ∧ -(x + 1) = (q : Int)) ∨ (0 ≤ x ∧ x = (q : Int))) := by
  by_cases hneg : x < 0
  · exact ⟨(-(x + 1)).toNat, by omega, .inl ⟨hneg, by omega⟩⟩
  · exact ⟨x.toNat, by omega, .inr ⟨by omega, by omega⟩⟩

section
attribute [local go_sem ↓] copyS_mark slice_mark
set_option maxRecDepth 100000 in
set_option maxHeartbeats 8000000 in
theorem either_any (w : World) (n : Int) (hn : -9223372036854775808 ≤ n ∧ n ≤ 9223372036854775807) {A1 : Option Addr} {m1 c1 : Nat} {l1 : List OpM} (hl1 : l1.length = m1) (hS1 : Slc w w.heap.size 6 A1 m1 c1 (l1.flatMap opCells)) (hO1 : ∀ o ∈ l1, OpOk w o)
    (a b : Int) (ha : -9223372036854775808 ≤ a ∧ a ≤ 9223372036854775807) (hb : -9223372036854775808 ≤ b ∧ b ≤ 9223372036854775807) (k : UInt64) :
    Calls Try.prog 7 #[.int .i64 n, .slice A1 m1 c1, .int .i64 a, .int .i64 b, .int .u64 (k.toNat : Int)] w fun e w' => e = .returned (.bool true) ∧ Below w.heap.size w w' := by
  have hMade := fun (wi : World) (hb : Below w.heap.size w wi) => made_run hb n hn hl1 hS1 hO1
  have HMADE := Lib.hid hMade
  have hst := made_still n l1
  have HST := Lib.hid hst
  have hN := madeN_le n
  generalize madeD n l1 = E at *
  generalize madeN n = N at *
  obtain ⟨ha1, ha2⟩ := ha
  obtain ⟨hb1', hb2'⟩ := hb
  obtain ⟨qa, hqam, hqa⟩ := nonneg_of a ⟨ha1, ha2⟩
  obtain ⟨qb, hqbm, hqb⟩ := nonneg_of b ⟨hb1', hb2'⟩
  obtain ⟨hN1, hN20⟩ := hN
  have hma : qa % N < N := Nat.mod_lt _ (by omega)
  have hmb : qb % N < N := Nat.mod_lt _ (by omega)
  obtain ⟨x, hx⟩ : ∃ x, x = qa % N := ⟨_, rfl⟩
  obtain ⟨y, hy⟩ : ∃ y, y = qb % N := ⟨_, rfl⟩
  have HX := Lib.hid (show ((qa : Int) % (N : Int)) = (x : Int) by rw [hx]; omega)
  have HY := Lib.hid (show ((qb : Int) % (N : Int)) = (y : Int) by rw [hy]; omega)
  rw [← hx] at hma
  rw [← hy] at hmb
  clear hx hy
  obtain ⟨hf1, hf2, hf3, hf4, hf5⟩ := either_facts hst hma hmb k
  have hI0 : (imgBytes E.now).length = N * 128 := by rw [img_length hst.ok.now, hst.ok.nowLen]
  have HF1 := Lib.hid hf1
  have HF2 := Lib.hid hf2
  have HF3 := Lib.hid hf3
  have HF4 := Lib.hid (show ((eitherD E N x y k).loose.length : Int) = 0 by rw [hf4]; rfl)
  have HF5 := Lib.hid hf5
  have HI0 := Lib.hid hI0
  have hNe : ((N : Int) == 0) = false := by simp; omega
  clear hMade hst hl1 hS1 hO1 hn hf1 hf2 hf3 hf4 hf5 hI0
  have HT1 := test_one k
  have HT2 := test_two k
  generalize hk0 : keeps k 0 = b0 at *
  generalize hk1 : keeps k 1 = b1 at *
  clear hk0 hk1
  go_enter Try.func7, Try.ntmps7
  go_wp2_with fail
  refine (dshown_any w).mono ?_
  rintro e w1 ⟨rfl, hb1⟩
  go_wp2_with fail
  refine (HMADE.out w1 hb1).mono ?_
  rintro e w2 ⟨p, F2, rfl, R2⟩
  clear hb1 HMADE
  go_upto_region 5 with (fail)
  have key : ∀ z : Nat, True := fun _ => trivial
  rcases hqa with ⟨hna, hqa⟩ | ⟨hna, hqa⟩ <;> rcases hqb with ⟨hnb, hqb⟩ | ⟨hnb, hqb⟩
  focus
    have HQA := Lib.hid hqa
    have HQB := Lib.hid hqb
    clear hqa hqb
    go_upto_region 7 with (fail)
    rw [HQA.out]
    go_upto_region 9 with (fail)
    rw [HQB.out]
    clear HQA HQB hna hnb
  rotate_left
  focus
    have HQA := Lib.hid hqa
    subst hqb
    clear hqa
    go_upto_region 7 with (fail)
    rw [HQA.out]
    go_upto_region 9 with (fail)
    clear HQA hna hnb
  rotate_left
  focus
    have HQB := Lib.hid hqb
    subst hqa
    clear hqb
    go_upto_region 9 with (fail)
    rw [HQB.out]
    clear HQB hna hnb
  rotate_left
  focus
    subst hqa hqb
    go_upto_region 9 with (fail)
    clear hna hnb
  rotate_left
  all_goals
    go_wp2_with fail
    refine (lenAny R2.disk).mono ?_
    rintro e w3 ⟨rfl, rfl⟩
    go_upto_region 10 with (fail)
    rw [HX.out]
    go_wp2_with fail
    refine (lenAny R2.disk).mono ?_
    rintro e w3 ⟨rfl, rfl⟩
    go_upto_region 11 with (fail)
    rw [HY.out]
    clear HX HY
    go_wp2_with fail
    refine (R2.image HST.out.up).mono ?_
    rintro e w3 ⟨rfl, _, R3⟩
    clear R2
    go_wp2_with fail
    refine (full_lit 201 201 rfl _).mono ?_
    rintro e w4 ⟨g4, rfl, hn4⟩
    go_wp2_with fail
    refine (R3.write hn4 (x : Int) HF1.out).mono ?_
    rintro e w5 ⟨rfl, F5, _, R5⟩
    clear R3 hn4
    go_wp2_with fail
    refine (full_lit 202 202 rfl _).mono ?_
    rintro e w6 ⟨g6, rfl, hn6⟩
    go_wp2_with fail
    refine (R5.write hn6 (y : Int) HF2.out).mono ?_
    rintro e w7 ⟨rfl, F7, _, R7⟩
    clear R5 hn6
    go_wp2_with fail
    refine (R7.crashS _ k rfl).mono ?_
    rintro e w8 ⟨rfl, _, R8⟩
    clear R7
    go_wp2_with fail
    refine R8.startS.mono ?_
    rintro e w9 ⟨rfl, _, R9⟩
    have R9' : Run w w9 F7 p N (eitherD E N x y k) := R9
    clear R8 R9
    go_wp2_with fail
    refine (R9'.image HF3.out).mono ?_
    rintro e w10 ⟨rfl, _, R10⟩
    rw [HF5.out]
    clear R9' HF5
    obtain ⟨cap, w11, cur, hcv, hb11, hz11, hM11, ht11, hc1, hc2, hc3⟩ := bytes_made w10 HI0.out (show N * 128 ≤ maxLen by simp only [maxLen]; omega)
    have R11 := R10.free hb11
    have hbc := hb11
    generalize imgBytes E.now = I0 at *
    obtain ⟨L, hL⟩ : ∃ L, L = N * 128 := ⟨_, rfl⟩
    rw [← hL] at hcv ht11 hc1 hc3 HI0
    have hxa : x * 128 + 128 ≤ L := by omega
    have hxb : y * 128 + 128 ≤ L := by omega
    have hcm : cap ≤ 9223372036854775807 := by simp only [maxLen] at hc2; omega
    have hi1 : (0 : Int) ≤ (x : Int) * 128 := by omega
    have hi2 : (x : Int) * 128 ≤ (L : Int) := by omega
    have hi3 : (0 : Int) ≤ (y : Int) * 128 := by omega
    have hi4 : (y : Int) * 128 ≤ (L : Int) := by omega
    have hsx := fun W => slice_low (g := w10.heap.size) (n := L) (cap := cap) (o := x * 128) (z := (x : Int) * 128) (by omega) (by omega) (by omega) W
    have hsy := fun W => slice_low (g := w10.heap.size) (n := L) (cap := cap) (o := y * 128) (z := (y : Int) * 128) (by omega) (by omega) (by omega) W
    have hwx : IntKind.i64.wrap ((x : Int) * 128) = (x : Int) * 128 := by rw [IntKind.wrap_i64]; omega
    have hwy : IntKind.i64.wrap ((y : Int) * 128) = (y : Int) * 128 := by rw [IntKind.wrap_i64]; omega
    clear hL
    cases b0 with
    | false =>
      cases b1 with
      | false =>
        have hfin := convert_bytes Try.underlying23 Try.underlying5 (ht11 ▸ hM11.slc hc3 hc1 hc2) 9 Try.underlying9
        rw [show putImg false y (fulls 202) (putImg false x (fulls 201) I0) = I0 from rfl]
        go_wp2_with fail
        refine (dirtyAny R11.disk).mono ?_
        rintro e w12 ⟨rfl, rfl⟩
        rw [HF4.out]
        go_wp2_with fail
        go_ret
        exact ⟨rfl, R11.below⟩
      | true =>
        rw [show putImg true y (fulls 202) (putImg false x (fulls 201) I0) = I0.take (y * 128) ++ fulls 202 ++ I0.drop (y * 128 + 128) from rfl]
        obtain ⟨I1, hI1⟩ : ∃ I1, I1 = I0.take (y * 128) ++ fulls 202 ++ I0.drop (y * 128 + 128) := ⟨_, rfl⟩
        rw [← hI1]
        have HI1 := Lib.hid hI1
        clear hI1
        go_wp2_with fail
        go_region_held (fun _ => True) (trivial) (first | (go_at_call 24; refine (full_lit 202 202 rfl _).mono ?_; rintro e w12 ⟨g_w12, rfl, hn_w12⟩; obtain ⟨w13, cur_w13, hc_w13, hM_w13, hz_w13, ht_w13, hb_w13⟩ := copy_into (o := y * 128) (dcap := cap - y * 128) (MBlk.below (w := w11.drew) hM11 hn_w12.below hM11.lt) ht11 HI0.out (fulls_length 202) hn_w12.blk hxb) | fail)
        have hb13 := ((hbc.drew).trans (hn_w12.below.mono hbc.size)).trans (hb_w13 _ (Nat.le_refl _))
        have Rz := R10.free hb13
        rw [← HI1.out] at ht_w13
        have hfin := convert_bytes Try.underlying23 Try.underlying5 (ht_w13 ▸ hM_w13.slc (by omega) hc1 hc2) 9 Try.underlying9
        clear hn_w12 hc_w13 hM_w13 ht_w13 hb_w13 hb13
        go_wp2_with fail
        refine (dirtyAny Rz.disk).mono ?_
        rintro e wz ⟨rfl, rfl⟩
        rw [HF4.out]
        go_wp2_with fail
        go_ret
        exact ⟨rfl, Rz.below⟩
    | true =>
      cases b1 with
      | false =>
        rw [show putImg false y (fulls 202) (putImg true x (fulls 201) I0) = I0.take (x * 128) ++ fulls 201 ++ I0.drop (x * 128 + 128) from rfl]
        obtain ⟨I1, hI1⟩ : ∃ I1, I1 = I0.take (x * 128) ++ fulls 201 ++ I0.drop (x * 128 + 128) := ⟨_, rfl⟩
        rw [← hI1]
        have HI1 := Lib.hid hI1
        clear hI1
        go_wp2_with fail
        go_region_held (fun _ => True) (trivial) (first | (go_at_call 24; refine (full_lit 201 201 rfl _).mono ?_; rintro e w12 ⟨g_w12, rfl, hn_w12⟩; obtain ⟨w13, cur_w13, hc_w13, hM_w13, hz_w13, ht_w13, hb_w13⟩ := copy_into (o := x * 128) (dcap := cap - x * 128) (MBlk.below (w := w11.drew) hM11 hn_w12.below hM11.lt) ht11 HI0.out (fulls_length 201) hn_w12.blk hxa) | fail)
        have hb13 := ((hbc.drew).trans (hn_w12.below.mono hbc.size)).trans (hb_w13 _ (Nat.le_refl _))
        have Rz := R10.free hb13
        rw [← HI1.out] at ht_w13
        have hfin := convert_bytes Try.underlying23 Try.underlying5 (ht_w13 ▸ hM_w13.slc (by omega) hc1 hc2) 9 Try.underlying9
        clear hn_w12 hc_w13 hM_w13 ht_w13 hb_w13 hb13
        go_wp2_with fail
        refine (dirtyAny Rz.disk).mono ?_
        rintro e wz ⟨rfl, rfl⟩
        rw [HF4.out]
        go_wp2_with fail
        go_ret
        exact ⟨rfl, Rz.below⟩
      | true =>
        obtain ⟨I1, hI1⟩ : ∃ I1, I1 = I0.take (x * 128) ++ fulls 201 ++ I0.drop (x * 128 + 128) := ⟨_, rfl⟩
        obtain ⟨I2, hI2⟩ : ∃ I2, I2 = I1.take (y * 128) ++ fulls 202 ++ I1.drop (y * 128 + 128) := ⟨_, rfl⟩
        rw [show putImg true y (fulls 202) (putImg true x (fulls 201) I0) = I2 by rw [hI2, hI1]; rfl]
        have hl1 : I1.length = L := by rw [hI1]; simp only [List.length_append, List.length_take, List.length_drop, fulls_length, HI0.out]; omega
        have HI1 := Lib.hid hI1
        have HI2 := Lib.hid hI2
        have HL1 := Lib.hid hl1
        clear hI1 hI2 hl1
        go_wp2_with fail
        go_region_held (fun _ => True) (trivial) (first | (go_at_call 24; refine (full_lit 201 201 rfl _).mono ?_; rintro e w12 ⟨g_w12, rfl, hn_w12⟩; obtain ⟨w13, cur_w13, hc_w13, hM_w13, hz_w13, ht_w13, hb_w13⟩ := copy_into (o := x * 128) (dcap := cap - x * 128) (MBlk.below (w := w11.drew) hM11 hn_w12.below hM11.lt) ht11 HI0.out (fulls_length 201) hn_w12.blk hxa) | fail)
        have hb13 := ((hbc.drew).trans (hn_w12.below.mono hbc.size)).trans (hb_w13 _ (Nat.le_refl _))
        rw [← HI1.out] at ht_w13
        clear hn_w12 hc_w13 hb_w13
        go_wp2_with fail
        go_region_held (fun _ => True) (trivial) (first | (go_at_call 24; refine (full_lit 202 202 rfl _).mono ?_; rintro e w14 ⟨g_w14, rfl, hn_w14⟩; obtain ⟨w15, cur_w15, hc_w15, hM_w15, hz_w15, ht_w15, hb_w15⟩ := copy_into (o := y * 128) (dcap := cap - y * 128) (MBlk.below (w := w13.drew) hM_w13 hn_w14.below hM_w13.lt) ht_w13 HL1.out (fulls_length 202) hn_w14.blk hxb) | fail)
        have hb15 := ((hb13.drew).trans (hn_w14.below.mono hb13.size)).trans (hb_w15 _ (Nat.le_refl _))
        have Rz := R10.free hb15
        rw [← HI2.out] at ht_w15
        have hfin := convert_bytes Try.underlying23 Try.underlying5 (ht_w15 ▸ hM_w15.slc (by omega) hc1 hc2) 9 Try.underlying9
        clear hn_w14 hc_w15 hM_w13 ht_w13 hM_w15 ht_w15 hb_w15 hb13 hb15
        go_wp2_with fail
        refine (dirtyAny Rz.disk).mono ?_
        rintro e wz ⟨rfl, rfl⟩
        rw [HF4.out]
        go_wp2_with fail
        go_ret
        exact ⟨rfl, Rz.below⟩

theorem DiskEither_walk {H : Type} {enc : TypeId × Value → H} (W : World) (base : Nat) (v0 v1 v2 v3 v4 : Value) (d0 d1 d2 d3 d4 : DataW H) (p0 p1 p2 p3 p4 : List MemPlace)
    (o0 : Value.okWide Try.prog W .any base 3 v0) (o1 : Value.okWide Try.prog W .any base 35 v1) (o2 : Value.okWide Try.prog W .any base 3 v2) (o3 : Value.okWide Try.prog W .any base 3 v3) (o4 : Value.okWide Try.prog W .any base 22 v4)
    (k0 : DataW.Trod enc Try.prog W 0 (fun _ => true) true 3 v0 d0 p0) (k1 : DataW.Trod enc Try.prog W 0 (fun _ => true) true 35 v1 d1 p1) (k2 : DataW.Trod enc Try.prog W 0 (fun _ => true) true 3 v2 d2 p2) (k3 : DataW.Trod enc Try.prog W 0 (fun _ => true) true 3 v3 d3 p3) (k4 : DataW.Trod enc Try.prog W 0 (fun _ => true) true 22 v4 d4 p4)
    (hsz : (DataW.weightsEach Try.prog [3, 35, 3, 3, 22] [d0, d1, d2, d3, d4]).all (· ≤ reachBytes) = true) :
    Calls Try.prog 7 #[v0, v1, v2, v3, v4] W fun e w' => e = .returned (.bool true) ∧ Below W.heap.size W w' := by
  obtain ⟨A1, n1, c1, l1, rfl, hl1, hS1, hO1⟩ := open_ops o1 k1 (weights_le hsz (j := 1) rfl rfl)
  obtain ⟨n, rfl, rfl, rfl, wn⟩ := open_int Try.underlying3 o0 k0
  obtain ⟨a, rfl, rfl, rfl, wa⟩ := open_int Try.underlying3 o2 k2
  obtain ⟨b, rfl, rfl, rfl, wb⟩ := open_int Try.underlying3 o3 k3
  obtain ⟨k, rfl, rfl, rfl, wk⟩ := open_int Try.underlying22 o4 k4
  obtain ⟨k', rfl⟩ := u64_of_wf wk
  exact either_any W n (int_wf wn) hl1 hS1 hO1 a b (int_wf wa) (int_wf wb) k'
end
end Go.Proofs.Ytbelkkhfjbbldaa
