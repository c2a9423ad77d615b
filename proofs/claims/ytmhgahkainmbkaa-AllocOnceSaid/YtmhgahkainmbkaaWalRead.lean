/- The walk of the log's Read. -/
import Derived.Test.YtmhgahkainmbkaaWalLog
namespace Go.Proofs.Ytmhgahkainmbkaa
open Go.RowKit
set_option linter.unusedVariables false
set_option linter.unusedSimpArgs false

/-- What a home is by the log: staged, committed, or as the disk has it. -/
def LogM.val (L : LogM) (D : DiskM) (k : Nat) : List UInt8 := (mget L.staged k).getD ((mget L.over k).getD (D.now.getD k []))
section
variable {w w' : World} {p go gs pd N : Nat} {L : LogM} {F G : Nat → Prop} {D : DiskM}
theorem homeB_nat {i : Int} (h : homeB N L i = true) : ∃ k : Nat, i = (k : Int) ∧ k < N := by
  unfold homeB at h
  rw [decide_eq_true_eq] at h
  exact ⟨i.toNat, by omega, by omega⟩
theorem lread_dead (h : LogAt w p go gs pd N L) (hd : L.dead = true) (i : Int) :
    Calls Try.prog 13 #[.pointer (some ⟨p, 0, none⟩), .int .i64 i] w fun e w' => e = .returned (.tuple #[.slice none 0 0, .int .i64 40]) ∧ w = w' := by
  obtain ⟨c0, c1, c2, c3, c4, c5, c6, c7, c8, fz⟩ := log_cells h.head
  rw [hd] at c8
  clear h hd
  go_enter Try.func13, Try.ntmps13
  go_wp2
  go_ret2
  exact ⟨rfl, rfl⟩
theorem lread_out (h : LogAt w p go gs pd N L) (hd : L.dead = false) (hk : Disk w F pd N D) (i : Int) (hi : -9223372036854775808 ≤ i ∧ i ≤ 9223372036854775807) (ho : homeB N L i = false) :
    Calls Try.prog 13 #[.pointer (some ⟨p, 0, none⟩), .int .i64 i] w fun e w' => e = .returned (.tuple #[.slice none 0 0, .int .i64 43]) ∧ ∃ n, w' = w.drewN n := by
  obtain ⟨c0, c1, c2, c3, c4, c5, c6, c7, c8, fz⟩ := log_cells h.head
  rw [hd] at c8
  have hH := home_any h hk i hi
  rw [ho] at hH
  have HH := Lib.hid hH
  clear h hd hk ho hH
  go_enter Try.func13, Try.ntmps13
  go_wp2_with fail
  refine HH.out.mono ?_
  rintro e w1 ⟨rfl, n, rfl⟩
  go_wp2
  go_ret2
  exact ⟨rfl, _, rfl⟩
set_option maxHeartbeats 1000000 in
theorem lread_off (h : LogAt w p go gs pd N L) (hd : L.dead = false) (hk : Disk w F pd N D) (i : Int) (hi : -9223372036854775808 ≤ i ∧ i ≤ 9223372036854775807) (ho : homeB N L i = true) (hu : D.up = false) :
    Calls Try.prog 13 #[.pointer (some ⟨p, 0, none⟩), .int .i64 i] w fun e w' => e = .returned (.tuple #[.slice none 0 0, .int .i64 40]) ∧ LogAt w' p go gs pd N { L with dead := true } ∧ Step w w' (Foot p go gs) (Foot p go gs) := by
  obtain ⟨c0, c1, c2, c3, c4, c5, c6, c7, c8, fz⟩ := log_cells h.head
  rw [hd] at c8
  have hH := home_any h hk i hi
  rw [ho] at hH
  have hM : D.mayE N i = 40 := by unfold DiskM.mayE; rw [if_pos hu]
  have hR := fun n : Nat => readE_any (hk.free (below_drewN _ w n)).2.choose_spec.choose_spec.choose_spec i (by rw [hM]; decide)
  rw [hM] at hR
  have hE := fun n : Nat => ended_any (h.free (below_drewN _ w n)) 40
  have HH := Lib.hid hH
  have HR := Lib.hid hR
  have HE := Lib.hid hE
  have HB := Lib.hid (fun n : Nat => below_drewN w.heap.size w n)
  clear h hd hk ho hH hM hR hE
  go_enter Try.func13, Try.ntmps13
  go_wp2_with fail
  refine HH.out.mono ?_
  rintro e w1 ⟨rfl, n, rfl⟩
  go_wp2_with fail
  refine (HR.out n).mono ?_
  rintro e w2 ⟨rfl, rfl⟩
  go_wp2_with fail
  refine (HE.out n).mono ?_
  rintro e w3 ⟨rfl, hL, hS⟩
  have HL := Lib.hid hL
  clear hL
  go_wp2_with fail
  go_ret2
  refine ⟨rfl, ?_, (Step.of_below (HB.out n) (Foot p go gs)).trans hS⟩
  have := HL.out
  simpa using this

section
attribute [local go_sem ↓] load_wsector_mark store_wsector_mark alloc_wsector_mark appendS_mark look_mark
attribute [local go_sem] alloc_wsector
theorem own_lower {w : World} {b b' : Nat} {e : TypeId} {size n : Nat} {v : Value} {xs : List Value} (h : w.ownsRow b e size v n xs) (hb : b' ≤ b) : w.ownsRow b' e size v n xs :=
  ⟨h.1, h.2.imp id (fun ⟨g, cap, cur, e, hb2, r⟩ => ⟨g, cap, cur, e, Nat.le_trans hb hb2, r⟩)⟩
set_option maxRecDepth 100000 in
set_option maxHeartbeats 2000000 in
theorem lread_own (h : LogAt w p go gs pd N L) (hd : L.dead = false) (hk : Disk w F pd N D) (k : Nat) (ho : homeB N L (k : Int) = true) (hu : D.up = true) :
    Calls Try.prog 13 #[.pointer (some ⟨p, 0, none⟩), .int .i64 (k : Int)] w fun e w' => ∃ A c, e = .returned (.tuple #[.slice A 128 c, .int .i64 0]) ∧ Below w.heap.size w w' ∧ w'.ownsRow w.heap.size 5 1 (.slice A 128 c) 128 ((L.val D k).map bv) := by
  have hkN : k < N := by unfold homeB at ho; rw [decide_eq_true_eq] at ho; omega
  have hNm := h.ok.most
  have hH := home_any h hk (k : Int) (by omega)
  rw [ho] at hH
  have hM : D.mayE N (k : Int) = 0 := by unfold DiskM.mayE; rw [if_neg (by simp [hu]), if_pos (by omega)]
  have hnl : (D.now.getD k []).length = 128 := by
    have hj : k < D.now.length := by rw [hk.ok.nowLen]; exact hkN
    rw [List.getD_eq_getElem?_getD, List.getElem?_eq_getElem hj]
    exact hk.ok.now _ (List.getElem_mem hj)
  have hR := fun n : Nat => read_any (hk.free (below_drewN _ w n)).2.choose_spec.choose_spec.choose_spec (k : Int) hM
  have hov : ∀ v, mget L.over k = some v → v.length = 128 := fun v hv => (h.overOk _ ((mget_some h.over.rising).1 hv)).2
  have hsv : ∀ v, mget L.staged k = some v → v.length = 128 := fun v hv => (h.stagedOk _ ((mget_some h.staged.rising).1 hv)).2
  obtain ⟨c0, c1, c2, c3, c4, c5, c6, c7, c8, fz⟩ := log_cells h.head
  rw [hd] at c8
  obtain ⟨x, hx⟩ : ∃ x, x = lookV L.over k := ⟨_, rfl⟩
  obtain ⟨y, hy⟩ : ∃ y, y = lookV L.staged k := ⟨_, rfl⟩
  obtain ⟨b1, hb1⟩ : ∃ b, b = (mget L.over k).isSome := ⟨_, rfl⟩
  obtain ⟨b2, hb2⟩ : ∃ b, b = (mget L.staged k).isSome := ⟨_, rfl⟩
  have hxl : x.length = 128 := by
    rw [hx]; unfold lookV
    cases e : mget L.over k with
    | none => rfl
    | some v => exact hov v e
  have hyl : y.length = 128 := by
    rw [hy]; unfold lookV
    cases e : mget L.staged k with
    | none => rfl
    | some v => exact hsv v e
  have hval : L.val D k = if b2 then y else if b1 then x else D.now.getD k [] := by
    rw [hb1, hb2, hx, hy]; unfold LogM.val lookV
    cases e : mget L.staged k with
    | none => cases e' : mget L.over k <;> simp
    | some v => simp
  rw [hval]
  have hst : ∀ z : List UInt8, z.length = 128 → ∀ W : World, (StoreS 80 (.pointer (some ⟨W.heap.size, 0, none⟩)) (secV z)).run Try.prog (W.alloc (.cells (zbytes 128) 80)) = .ok () (W.alloc (.cells (z.map bv).toArray 80)) := fun z hz W =>
    StoreS.new (by simp only [List.size_toArray, List.length_map, hz]; exact i_wsector) (by simp [zbytes_size, hz]) (fun v hv => bvs_one z v (by simpa using hv)) W
  have hst1 := hst x hxl
  have hst2 := hst y hyl
  have HLG := Lib.hid h
  have HD := Lib.hid hd
  have HH := Lib.hid hH
  have HR := Lib.hid hR
  have HN := Lib.hid hnl
  have HX := Lib.hid (And.intro hx (And.intro hy (And.intro hb1 (And.intro hb2 (And.intro hxl hyl)))))
  have HLT := Lib.hid h.lt
  clear h hd hk ho hH hM hR hov hsv hval hst hx hy hb1 hb2 hxl hyl hnl
  go_enter Try.func13, Try.ntmps13
  go_wp2_with fail
  refine HH.out.mono ?_
  rintro e w0 ⟨rfl, n, rfl⟩
  go_wp2_with fail
  refine (HR.out n).mono ?_
  rintro e w1 ⟨g, rfl, hg, hB, hb⟩
  have hbw : Below w.heap.size w w1 := (below_drewN _ w n).trans hb
  rw [Int.toNat_natCast] at hB
  have hgl := hB.lt
  have hL1 := HLG.out.free hbw
  obtain ⟨c0, c1, c2, c3, c4, c5, c6, c7, c8, fz⟩ := log_cells hL1.head
  obtain ⟨ex, ey, eb1, eb2, exl, eyl⟩ := HX.out
  rw [HD.out] at c8
  obtain ⟨W2, hW2⟩ : ∃ W2, W2 = w1.alloc (.cells (x.map bv).toArray 80) := ⟨_, rfl⟩
  obtain ⟨W3, hW3⟩ : ∃ W3, W3 = W2.alloc (.cells (y.map bv).toArray 80) := ⟨_, rfl⟩
  have hz2 : W2.heap.size = w1.heap.size + 1 := by rw [hW2]; simp
  have hz3 : W3.heap.size = w1.heap.size + 2 := by rw [hW3]; simp [hz2]
  have hb2 : Below w.heap.size w W2 := by rw [hW2]; exact hbw.alloc hbw.size _
  have hb3 : Below w.heap.size w W3 := by rw [hW3]; exact hb2.alloc hb2.size _
  have hL2 := HLG.out.free hb2
  have hk1 := LookS.ok hL1.over k
  have hk2 := LookS.ok hL2.staged k
  rw [← ex, ← eb1] at hk1
  rw [← ey, ← eb2] at hk2
  have hBx : Blk W3 w1.heap.size 80 (x.map bv).toArray := by rw [hW3]; refine Blk.alloc ?_ _; rw [hW2]; exact Blk.new _ _ _
  have hBy : Blk W3 W2.heap.size 80 (y.map bv).toArray := by rw [hW3]; exact Blk.new _ _ _
  have hBg : Blk W3 g 113 ((D.now.getD k []).map bv).toArray := by rw [hW3, hW2]; exact (hB.alloc _).alloc _
  have happ : ∀ (gb : Nat) (t : TypeId) (z : List UInt8), Blk W3 gb t (z.map bv).toArray → z.length = 128 → ∃ A c w', (AppendS #[39, 39] 39 #[.slice (some ⟨W3.heap.size, 0, none⟩) 0 0, .slice (some ⟨gb, 0, none⟩) 128 128]).run Try.prog (W3.alloc (.cells #[] 5)) = .ok (.slice A 128 c) w' ∧
      Below W3.heap.size W3 w' ∧ w'.ownsRow W3.heap.size 5 1 (.slice A 128 c) 128 (z.map bv) := by
    intro gb t z hz hzl
    have hS := hz.slc (sz := 1) (n := 128) (c := 128) (by simp [hzl]) (Nat.le_refl _) (by decide)
    rw [Nat.mul_one, List.take_of_length_le (by simp [hzl])] at hS
    obtain ⟨A, c, w', hr, hown, hg, hat⟩ := append_bytes (W3.alloc (.cells #[] 5)) W3.heap.size (.slice (some ⟨W3.heap.size, 0, none⟩) 0 0) 0 [] (World.ownsRow_made W3 #[] 0 (Nat.le_refl _) (by decide) rfl)
      (gb + 1) (some ⟨gb, 0, none⟩) 128 128 z (hS.below ((Below.refl (gb + 1) W3).alloc hz.lt _)) (by decide) (by simp)
    rw [Nat.zero_add] at hr hown
    rw [List.nil_append] at hown
    exact ⟨A, c, w', hr, ((Below.refl _ W3).alloc (Nat.le_refl _) _).grown hg (by simp) (by simp [Value.ownBlock]), hown⟩
  have key : ∀ (gb : Nat) (t : TypeId) (z : List UInt8), Blk W3 gb t (z.map bv).toArray → z.length = 128 → ∃ A c w', (AppendS #[39, 39] 39 #[.slice (some ⟨w1.heap.size + 1 + 1, 0, none⟩) 0 0, .slice (some ⟨gb, 0, none⟩) 128 128]).run Try.prog (((w1.alloc (.cells (x.map bv).toArray 80)).alloc (.cells (y.map bv).toArray 80)).alloc (.cells #[] 5)) = .ok (.slice A 128 c) w' ∧
      Below w.heap.size w w' ∧ w'.ownsRow w.heap.size 5 1 (.slice A 128 c) 128 (z.map bv) := by
    intro gb t z hz hzl
    obtain ⟨A, c, w', hr, h1, h2⟩ := happ gb t z hz hzl
    rw [hz3, hW3, hW2] at hr
    have := hb3.size
    exact ⟨A, c, w', hr, hb3.trans (h1.mono hb3.size), own_lower h2 (by omega)⟩
  rw [hW2] at hk2
  have hca := cells_alloc hL1.head.lt
  have hst3 := hst2 (w1.alloc (.cells (x.map bv).toArray 80))
  rw [World.size_alloc] at hst3
  cases b2
  · cases b1
    · obtain ⟨A, c, w5, hr, q1, q2⟩ := key g _ _ hBg HN.out
      have HQ := Lib.hid (And.intro q1 q2)
      clear hL1 ex ey eb1 eb2 exl eyl hW2 hW3 hz2 hz3 hb2 hb3 hL2 hBx hBy hBg happ key hB hb hbw hg q1 q2
      go_wp2_with fail
      go_ret2
      exact ⟨A, c, rfl, HQ.out.1, HQ.out.2⟩
    · obtain ⟨A, c, w5, hr, q1, q2⟩ := key _ _ _ hBx exl
      have HQ := Lib.hid (And.intro q1 q2)
      clear hL1 ex ey eb1 eb2 exl eyl hW2 hW3 hz2 hz3 hb2 hb3 hL2 hBx hBy hBg happ key hB hb hbw hg q1 q2
      go_wp2_with fail
      go_ret2
      exact ⟨A, c, rfl, HQ.out.1, HQ.out.2⟩
  · obtain ⟨A, c, w5, hr, q1, q2⟩ := key _ _ _ hBy eyl
    rw [hz2] at hr
    have HQ := Lib.hid (And.intro q1 q2)
    clear hL1 ex ey eb1 eb2 exl eyl hW2 hW3 hz2 hz3 hb2 hb3 hL2 hBx hBy hBg happ key hB hb hbw hg q1 q2
    cases b1
    · go_wp2_with fail
      go_ret2
      exact ⟨A, c, rfl, HQ.out.1, HQ.out.2⟩
    · go_wp2_with fail
      go_ret2
      exact ⟨A, c, rfl, HQ.out.1, HQ.out.2⟩
end
theorem lread_ok (h : LogAt w p go gs pd N L) (hd : L.dead = false) (hk : Disk w F pd N D) (k : Nat) (ho : homeB N L (k : Int) = true) (hu : D.up = true) :
    Calls Try.prog 13 #[.pointer (some ⟨p, 0, none⟩), .int .i64 (k : Int)] w fun e w' => ∃ A c, e = .returned (.tuple #[.slice A 128 c, .int .i64 0]) ∧ Below w.heap.size w w' ∧ Slc w' w'.heap.size 1 A 128 c ((L.val D k).map bv) ∧ ∀ a, A = some a → w.heap.size ≤ a.block :=
  (lread_own h hd hk k ho hu).mono fun e w' ⟨A, c, he, hb, ho⟩ => ⟨A, c, he, hb, own_slc_of ho, fun a ha => (ho.lt a.block (by rw [ha]; rfl)).1⟩
end
end Go.Proofs.Ytmhgahkainmbkaa
