/- The walk of the log's Stage. -/
import Derived.Test.YtmhgahkainmbkaaWalRead
namespace Go.Proofs.Ytmhgahkainmbkaa
open Go.RowKit
set_option linter.unusedVariables false
set_option linter.unusedSimpArgs false

def costN (k : Nat) : Nat := k + (k + 59) / 60
theorem rising_length (N : Nat) : ∀ (m : SecMap) (a : Nat), Rising m → (∀ x ∈ m, a ≤ x.1 ∧ x.1 < N) → m.length ≤ N - a := by
  intro m
  induction m with
  | nil => intro a _ _; exact Nat.zero_le _
  | cons x m ih =>
    intro a hm h
    have h1 := h x List.mem_cons_self
    have h2 := ih (x.1 + 1) hm.tail (fun y hy => ⟨hm.head y hy, (h y (List.mem_cons_of_mem _ hy)).2⟩)
    simp only [List.length_cons]
    omega
theorem homeMap_length {N : Nat} {L : LogM} {m : SecMap} (hm : Rising m) (h : HomeMap N L m) : m.length ≤ N := by
  have := rising_length N m 0 hm (fun x hx => ⟨Nat.zero_le _, by have := (h x hx).1; unfold homeB at this; rw [decide_eq_true_eq] at this; omega⟩)
  omega
def LogM.stageE (L : LogM) (N : Nat) (i : Int) (n : Nat) : Int :=
  if L.dead = true then 40 else if homeB N L i = false then 43 else if n ≠ 128 then 44 else if mget L.staged i.toNat = none ∧ L.n - 1 < costN (L.staged.length + 1) then 45 else 0
def LogM.stage (L : LogM) (N : Nat) (i : Int) (n : Nat) (l : List UInt8) : LogM := if L.stageE N i n = 0 then { L with staged := mput L.staged i.toNat l } else L
theorem HomeMap.put {N : Nat} {L : LogM} {m : SecMap} (h : HomeMap N L m) {k : Nat} {x : List UInt8} (hk : homeB N L (k : Int) = true) (hx : x.length = 128) : HomeMap N L (mput m k x) := fun y hy => by
  rcases mput_keys hy with h1 | h1 | h1
  · rw [h1]; exact ⟨hk, hx⟩
  · exact h y h1.1
  · exact h y h1
section
variable {w w' : World} {p go gs pd N : Nat} {L : LogM} {F G : Nat → Prop} {D : DiskM}
theorem LoadS.of_range {P : Program} {w : World} {g o : Nat} {ty : TypeId} {cs : List Value} {d : TypeDesc} (hr : w.rangeAt g o cs) (hu : P.underlying ty = some d) (hd : d.isRow = true)
    (hi : (P.info? ty).map (·.size) = some cs.length) : (LoadS ty (.pointer (some ⟨g, o, none⟩))).run P w = .ok (.agg cs.toArray) w :=
  run_loadAt_mid (P := P) w g o ty cs d hr hu hd hi
theorem stage_dead (h : LogAt w p go gs pd N L) (hd : L.dead = true) (i : Int) (A : Option Addr) (n c : Nat) :
    Calls Try.prog 14 #[.pointer (some ⟨p, 0, none⟩), .int .i64 i, .slice A n c] w fun e w' => e = .returned (.int .i64 40) ∧ Below w.heap.size w w' := by
  obtain ⟨c0, c1, c2, c3, c4, c5, c6, c7, c8, fz⟩ := log_cells h.head
  rw [hd] at c8
  clear h hd
  go_enter Try.func14, Try.ntmps14
  go_wp2
  go_ret
  exact ⟨rfl, Below.refl _ _⟩
theorem stage_out (h : LogAt w p go gs pd N L) (hd : L.dead = false) (hk : Disk w F pd N D) (i : Int) (hi : -9223372036854775808 ≤ i ∧ i ≤ 9223372036854775807) (ho : homeB N L i = false) (A : Option Addr) (n c : Nat) :
    Calls Try.prog 14 #[.pointer (some ⟨p, 0, none⟩), .int .i64 i, .slice A n c] w fun e w' => e = .returned (.int .i64 43) ∧ Below w.heap.size w w' := by
  obtain ⟨c0, c1, c2, c3, c4, c5, c6, c7, c8, fz⟩ := log_cells h.head
  rw [hd] at c8
  have hH := home_any h hk i hi
  rw [ho] at hH
  have HH := Lib.hid hH
  clear h hd hk ho hH
  go_enter Try.func14, Try.ntmps14
  go_wp2_with fail
  refine HH.out.mono ?_
  rintro e w1 ⟨rfl, n, rfl⟩
  go_wp2
  go_ret
  exact ⟨rfl, below_drewN _ _ _⟩
theorem stage_size (h : LogAt w p go gs pd N L) (hd : L.dead = false) (hk : Disk w F pd N D) (i : Int) (hi : -9223372036854775808 ≤ i ∧ i ≤ 9223372036854775807) (ho : homeB N L i = true) (A : Option Addr) (n c : Nat) (hn : n ≠ 128) :
    Calls Try.prog 14 #[.pointer (some ⟨p, 0, none⟩), .int .i64 i, .slice A n c] w fun e w' => e = .returned (.int .i64 44) ∧ Below w.heap.size w w' := by
  obtain ⟨c0, c1, c2, c3, c4, c5, c6, c7, c8, fz⟩ := log_cells h.head
  rw [hd] at c8
  have hH := home_any h hk i hi
  rw [ho] at hH
  have HH := Lib.hid hH
  have hne : ((n : Int) != 128) = true := by simp; omega
  clear h hd hk ho hH hn
  go_enter Try.func14, Try.ntmps14
  go_wp2_with fail
  refine HH.out.mono ?_
  rintro e w1 ⟨rfl, n, rfl⟩
  go_wp2
  go_ret
  exact ⟨rfl, below_drewN _ _ _⟩
theorem arrayAt_sector (a : Option Addr) (c : Nat) (w : World) : Sem.run Try.prog (Instr.arrayAt 80 (.slice a 128 c)) w = .ok (.pointer a) w := by
  simp [Instr.arrayAt, run_underlying u_wsector, Result.andThen]
section
attribute [local go_sem ↓] load_wsector_mark store_wsector_mark alloc_wsector_mark look_mark mapSet_mark len_map_mark
attribute [local go_sem] alloc_wsector arrayAt_sector
set_option maxRecDepth 100000 in
set_option maxHeartbeats 2000000 in
theorem stage_in (h : LogAt w p go gs pd N L) (hd : L.dead = false) (hk : Disk w F pd N D) (k : Nat) (ho : homeB N L (k : Int) = true) {A : Option Addr} {c B : Nat} {l : List UInt8} (hS : Slc w B 1 A 128 c (l.map bv)) :
    Calls Try.prog 14 #[.pointer (some ⟨p, 0, none⟩), .int .i64 (k : Int), .slice A 128 c] w fun e w' => e = .returned (.int .i64 (L.stageE N (k : Int) 128)) ∧
      LogAt w' p go gs pd N (L.stage N (k : Int) 128 l) ∧ Step w w' (Foot p go gs) (Foot p go gs) := by
  have hkN : k < N := by unfold homeB at ho; rw [decide_eq_true_eq] at ho; omega
  have hNm := h.ok.most
  have hll : l.length = 128 := by have := hS.len; simpa using this
  have hSL := homeMap_length h.staged.rising h.stagedOk
  have hE : L.stageE N (k : Int) 128 = if mget L.staged k = none ∧ L.n - 1 < costN (L.staged.length + 1) then 45 else 0 := by
    unfold LogM.stageE
    rw [if_neg (by simp [hd]), if_neg (by simp [ho]), if_neg (by decide), Int.toNat_natCast]
  have hH := home_any h hk (k : Int) (by omega)
  rw [ho] at hH
  have hsv : ∀ v, mget L.staged k = some v → v.length = 128 := fun v hv => (h.stagedOk _ ((mget_some h.staged.rising).1 hv)).2
  obtain ⟨c0, c1, c2, c3, c4, c5, c6, c7, c8, fz⟩ := log_cells h.head
  rw [hd] at c8
  obtain ⟨b, off, rfl, hbB, hcell⟩ := hS.at_ (by decide)
  have hC : ∀ W : World, Calls Try.prog 39 #[.int .i64 ((L.staged.length : Int) + 1)] W fun e w' => e = .returned (.int .i64 (costN (L.staged.length + 1) : Int)) ∧ W = w' := fun W => by
    have := cost_any (L.staged.length + 1) (by omega) W
    rwa [Int.natCast_add] at this
  obtain ⟨y, hy⟩ : ∃ y, y = lookV L.staged k := ⟨_, rfl⟩
  have hyl : y.length = 128 := by
    rw [hy]; unfold lookV
    cases e : mget L.staged k with
    | none => rfl
    | some v => exact hsv v e
  have hst1 : ∀ W : World, (StoreS 80 (.pointer (some ⟨W.heap.size, 0, none⟩)) (secV y)).run Try.prog (W.alloc (.cells (zbytes 128) 80)) = .ok () (W.alloc (.cells (y.map bv).toArray 80)) := fun W =>
    StoreS.new (by simp only [List.size_toArray, List.length_map, hyl]; exact i_wsector) (by simp [zbytes_size, hyl]) (fun v hv => bvs_one y v (by simpa using hv)) W
  have hC2 : costN (L.staged.length + 1) ≤ 2000 := by unfold costN; omega
  have HLG := Lib.hid h
  have HD := Lib.hid hd
  have HH := Lib.hid hH
  have HC := Lib.hid hC
  have HY := Lib.hid hy
  have HS := Lib.hid hS
  have HO := Lib.hid ho
  have HLL := Lib.hid hll
  have HE := Lib.hid hE
  have HCELL := Lib.hid hcell
  clear h hd hk ho hH hsv hC hy hS hll hE hcell hyl
  go_enter Try.func14, Try.ntmps14
  go_wp2_with fail
  refine HH.out.mono ?_
  rintro e w0 ⟨rfl, n, hw0⟩
  have hb0 : Below w.heap.size w w0 := by rw [hw0]; exact below_drewN _ _ _
  have hL0 := HLG.out.free hb0
  obtain ⟨c0, c1, c2, c3, c4, c5, c6, c7, c8, fz⟩ := log_cells hL0.head
  rw [HD.out] at c8
  have hk0 := LookS.ok hL0.staged k
  rw [← HY.out] at hk0
  obtain ⟨W2, hW2⟩ : ∃ W2, W2 = w0.alloc (.cells (y.map bv).toArray 80) := ⟨_, rfl⟩
  have hb2 : Below w.heap.size w W2 := by rw [hW2]; exact hb0.alloc hb0.size _
  have hL2 := HLG.out.free hb2
  have hlen2 := LenS.ok hL2.staged
  have hca := cells_alloc hL0.head.lt
  rw [hW2] at hlen2
  have hst2 := hst1 w0
  clear hst1 hw0
  have HB2 := Lib.hid hb2
  have HW2 := Lib.hid hW2
  obtain ⟨hn4, hn255⟩ := And.intro hL0.ok.n4 hL0.ok.n255
  have hLE := llen_any hL2
  rw [hW2] at hLE
  have HLE := Lib.hid hLE
  clear hb2 hW2 hL0 hb0 hLE
  have HL2 := Lib.hid hL2
  clear hL2
  -- the store at the end
  have fin : ∃ o, ∀ W : World, W = W2.drew → (MapSetS 75 (.map (some gs)) (.int .i64 (k : Int)) (secV l)).run Try.prog W = .ok () (objSet W gs o) ∧ LogAt (objSet W gs o) p go gs pd N { L with staged := mput L.staged k l } ∧ Step w (objSet W gs o) (Foot p go gs) (Foot p go gs) := by
    have hL3 := HL2.out.free (Below.refl _ W2).drew
    obtain ⟨o, hr, hm⟩ := MapSetS.ok hL3.staged k l
    refine ⟨o, fun W hW => ?_⟩
    subst hW
    exact ⟨hr, hL3.putStaged hm (HLG.out.stagedOk.put HO.out HLL.out), ((Step.of_below HB2.out (Foot p go gs)).drew).objSet (.inl (.inr (.inr rfl))) o⟩
  have hld : ∀ W : World, W = W2.drew → (LoadS 80 (.pointer (some ⟨b, off, none⟩))).run Try.prog W = .ok (secV l) W := fun W hW => by
    subst hW
    have hS2 := (HS.out.lt (by decide)).below (HB2.out.drew)
    obtain ⟨b', off', e, _, hc2⟩ := hS2.at_ (by decide)
    injection e with e; injection e with e1 e2 _; subst e1 e2
    exact LoadS.of_range (cs := l.map bv) hc2 u_wsector rfl (by rw [List.length_map, HLL.out]; exact i_wsector)
  obtain ⟨o, hfin⟩ := fin
  obtain ⟨W3, hW3⟩ : ∃ W3, W3 = W2.drew := ⟨_, rfl⟩
  obtain ⟨hset, hL4, hS4⟩ := hfin W3 hW3
  have hld3 := hld W3 hW3
  have hL3 : LogAt W3 p go gs pd N L := by rw [hW3]; exact HL2.out.free (Below.refl _ W2).drew
  obtain ⟨d0, d1, d2, d3, d4, d5, d6, d7, d8, fz3⟩ := log_cells hL3.head
  have HR := Lib.hid (And.intro hL4 hS4)
  have HW3 := Lib.hid hW3
  clear hfin hL4 hS4 hL3 hld hW3
  generalize hW4 : objSet W3 gs o = W4 at *
  clear hW4
  cases hb : (mget L.staged k).isSome with
  | true =>
    rw [hb] at hk0
    have hne : ¬ (mget L.staged k = none ∧ L.n - 1 < costN (L.staged.length + 1)) := fun h => by rw [h.1] at hb; cases hb
    have HNE := Lib.hid hne
    clear hb hne
    go_wp2_with fail
    refine region_tail 8 (by kernel_rfl) (by kernel_rfl) ?_
    simp only [List.take_succ_cons, List.take_zero, List.drop_succ_cons, List.drop_zero]
    rw [← HW2.out, ← HW3.out]
    repeat still_step
    refine wpStill_nil ?_
    go_wp2_with fail
    go_ret
    have hE2 : L.stageE N (k : Int) 128 = 0 := by rw [HE.out, if_neg HNE.out]
    unfold LogM.stage
    rw [hE2, if_pos rfl, Int.toNat_natCast]
    exact ⟨rfl, HR.out⟩
  | false =>
    rw [hb] at hk0
    have hnone : mget L.staged k = none := by simpa using hb
    by_cases hfull : L.n - 1 < costN (L.staged.length + 1)
    · have hE2 : L.stageE N (k : Int) 128 = 45 := by rw [HE.out, if_pos ⟨hnone, hfull⟩]
      have HE2 := Lib.hid hE2
      have t1 : ((L.n - 1 : Nat) : Int) < (costN (L.staged.length + 1) : Int) := by omega
      clear hb hnone hE2 t1
      go_wp2_with fail
      refine (HC.out _).mono ?_
      rintro e w5 ⟨rfl, rfl⟩
      go_wp2_with fail
      refine HLE.out.mono ?_
      rintro e w5 ⟨rfl, rfl⟩
      go_wp2_with fail
      go_ret
      unfold LogM.stage
      rw [HE2.out, if_neg (by decide)]
      refine ⟨rfl, ?_, ?_⟩
      · rw [← HW2.out]; exact HL2.out
      · rw [← HW2.out]; exact Step.of_below HB2.out _
    · have hE2 : L.stageE N (k : Int) 128 = 0 := by rw [HE.out, if_neg (fun h => hfull h.2)]
      have HE2 := Lib.hid hE2
      have t1 : ¬ ((L.n - 1 : Nat) : Int) < (costN (L.staged.length + 1) : Int) := by omega
      clear hb hnone hE2 t1
      go_wp2_with fail
      refine (HC.out _).mono ?_
      rintro e w5 ⟨rfl, rfl⟩
      go_wp2_with fail
      refine HLE.out.mono ?_
      rintro e w5 ⟨rfl, rfl⟩
      go_wp2_with fail
      refine region_tail 8 (by kernel_rfl) (by kernel_rfl) ?_
      simp only [List.take_succ_cons, List.take_zero, List.drop_succ_cons, List.drop_zero]
      rw [← HW2.out, ← HW3.out]
      repeat still_step
      refine wpStill_nil ?_
      go_wp2_with fail
      go_ret
      unfold LogM.stage
      rw [HE2.out, if_pos rfl, Int.toNat_natCast]
      exact ⟨rfl, HR.out⟩
end
/-- Stage, all ways at once. -/
theorem stage_any (h : LogAt w p go gs pd N L) (hk : Disk w F pd N D) (i : Int) (hi : -9223372036854775808 ≤ i ∧ i ≤ 9223372036854775807) {A : Option Addr} {n c B : Nat} {l : List UInt8} (hS : Slc w B 1 A n c (l.map bv)) :
    Calls Try.prog 14 #[.pointer (some ⟨p, 0, none⟩), .int .i64 i, .slice A n c] w fun e w' => e = .returned (.int .i64 (L.stageE N i n)) ∧
      LogAt w' p go gs pd N (L.stage N i n l) ∧ Step w w' (Foot p go gs) (Foot p go gs) := by
  by_cases hd : L.dead = true
  · have hE : L.stageE N i n = 40 := by unfold LogM.stageE; rw [if_pos hd]
    unfold LogM.stage
    rw [hE, if_neg (by decide)]
    exact (stage_dead h hd i A n c).mono fun _ _ ⟨e, hb⟩ => ⟨e, h.free hb, Step.of_below hb _⟩
  · have hd' : L.dead = false := by simpa using hd
    cases ho : homeB N L i with
    | false =>
      have hE : L.stageE N i n = 43 := by unfold LogM.stageE; rw [if_neg hd, if_pos ho]
      unfold LogM.stage
      rw [hE, if_neg (by decide)]
      exact (stage_out h hd' hk i hi ho A n c).mono fun _ _ ⟨e, hb⟩ => ⟨e, h.free hb, Step.of_below hb _⟩
    | true =>
      by_cases hn : n = 128
      · subst hn
        obtain ⟨k, rfl, hkN⟩ := homeB_nat ho
        exact stage_in h hd' hk k ho hS
      · have hE : L.stageE N i n = 44 := by unfold LogM.stageE; rw [if_neg hd, if_neg (by simp [ho]), if_pos hn]
        unfold LogM.stage
        rw [hE, if_neg (by decide)]
        exact (stage_size h hd' hk i hi ho A n c hn).mono fun _ _ ⟨e, hb⟩ => ⟨e, h.free hb, Step.of_below hb _⟩
end
end Go.Proofs.Ytmhgahkainmbkaa
