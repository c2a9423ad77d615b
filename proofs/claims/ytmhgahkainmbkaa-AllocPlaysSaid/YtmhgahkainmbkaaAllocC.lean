/- The walks of read, has, free, turn. The walks of has and free. The walks of turn and least. -/
import Derived.Test.YtmhgahkainmbkaaAllocB
namespace Go.Proofs.Ytmhgahkainmbkaa
open Go.RowKit
set_option linter.unusedVariables false
set_option linter.unusedSimpArgs false
variable {w : Ground} {wi wj : World} {p go gs pd ps n : Nat} {L L' : LogM} {F Fj : Nat → Prop} {D : DiskM}
/-- 128 bytes in memory of their own. -/
structure Bytes (wi w' : World) (g cap : Nat) (l : List UInt8) : Prop where
  below : Below wi.heap.size wi w'
  new : wi.heap.size ≤ g
  len : l.length = 128
  capOk : 128 ≤ cap ∧ cap ≤ maxLen
  at_ : ∃ cur, Blk w' g 5 cur ∧ cur.size = cap ∧ cur.toList.take 128 = l.map bv
theorem Bytes.slc {w' : World} {g cap : Nat} {l : List UInt8} (h : Bytes wi w' g cap l) : Slc w' (g + 1) 1 (some ⟨g, 0, none⟩) 128 cap (l.map bv) := by
  obtain ⟨cur, h1, h2, h3⟩ := h.at_
  exact bytes_string h1 h.len h.capOk.1 h.capOk.2 h2 h3
theorem Bytes.free {w' w2 : World} {g cap : Nat} {l : List UInt8} (h : Bytes wi w' g cap l) (hb : Below w'.heap.size w' w2) : Bytes wi w2 g cap l := by
  obtain ⟨cur, h1, h2, h3⟩ := h.at_
  exact ⟨h.below.trans (hb.mono h.below.size), h.new, h.len, h.capOk, cur, h1.below hb h1.lt, h2, h3⟩
theorem Bytes.cell {w' : World} {g cap : Nat} {l : List UInt8} (h : Bytes wi w' g cap l) {j : Nat} (hj : j < 128) : w'.cell? ⟨g, j, none⟩ = some (.int .u8 ((l.getD j 0).toNat : Int)) := by
  obtain ⟨cur, h1, h2, h3⟩ := h.at_
  rw [h1.cell]
  have h4 := congrArg (fun l => l[j]?) h3
  have hl := h.len
  simp only [List.getElem?_take_of_lt hj, List.getElem?_map] at h4
  rw [List.getElem?_eq_getElem (show j < l.length by omega)] at h4
  rw [List.getD_eq_getElem?_getD, List.getElem?_eq_getElem (show j < l.length by omega)]
  simpa [bv] using h4
theorem Bytes.frozen {w' : World} {g cap : Nat} {l : List UInt8} (h : Bytes wi w' g cap l) (j : Nat) : w'.frozen? ⟨g, j, none⟩ = false := by
  obtain ⟨cur, h1, h2, h3⟩ := h.at_
  exact h1.frozen j
theorem Bytes.set {w' : World} {g cap : Nat} {l : List UInt8} (h : Bytes wi w' g cap l) {j : Nat} (hj : j < 128) (x : UInt8) {z : Int} (hz : z = (x.toNat : Int)) : Bytes wi (w'.setCell ⟨g, j, none⟩ (.int .u8 z)) g cap (l.set j x) := by
  subst hz
  obtain ⟨cur, h1, h2, h3⟩ := h.at_
  refine ⟨h.below.setCell h.new _, h.new, by rw [List.length_set]; exact h.len, h.capOk, _, h1.set_ j _, by simpa using h2, ?_⟩
  rw [Array.toList_setIfInBounds, List.take_set, h3, List.map_set]
  rfl
theorem LRun.readB (h : LRun w wi F p go gs pd n L D) {k : Nat} (hk : k = 0 ∨ lMap n ≤ k) (hn : k < n) :
    Calls Try.prog 13 #[.pointer (some ⟨p, 0, none⟩), .int .i64 (k : Int)] wi fun e w' => ∃ g cap, e = .returned (.tuple #[.slice (some ⟨g, 0, none⟩) 128 cap, .int .i64 0]) ∧ Bytes wi w' g cap (L.val D k) :=
  (h.read hk hn).mono fun e w' ⟨g, cap, cur, he, hb, hg, hB, h1, h2, h3, h4⟩ => ⟨g, cap, he, hb, hg, h.val_length hk hn, ⟨h1, h2⟩, cur, hB, h3, h4⟩
theorem Bytes.from {w0 w' : World} {g cap : Nat} {l : List UInt8} (h : Bytes wi w' g cap l) (hb : Below w0.heap.size w0 wi) : Bytes w0 w' g cap l := ⟨hb.trans (h.below.mono hb.size), Nat.le_trans hb.size h.new, h.len, h.capOk, h.at_⟩

theorem load_kind_mark (x : Value) : Instr.loadAt 121 x = LoadS 121 x := rfl
theorem store_kind_mark (x v : Value) : Instr.storeAt 121 x v = StoreS 121 x v := rfl
theorem store_kind (a c : Nat) (W : World) : (StoreS 121 (.pointer (some ⟨W.heap.size, 0, none⟩)) (.agg #[.int .i64 (a : Int), .int .i64 (c : Int)])).run Try.prog (W.alloc (.cells #[.int .i64 0, .int .i64 0] 121)) = .ok () (W.alloc (.cells #[.int .i64 (a : Int), .int .i64 (c : Int)] 121)) :=
  StoreS.new (P := Try.prog) (ty := 121) (t := 121) (c := #[.int .i64 0, .int .i64 0]) (x := #[.int .i64 (a : Int), .int .i64 (c : Int)]) i_kind rfl (fun v hv => by simp at hv; rcases hv with rfl | rfl <;> rfl) W
section
attribute [local go_sem ↓] load_kind_mark store_kind_mark
attribute [local go_sem] store_kind
set_option maxRecDepth 100000 in
set_option maxHeartbeats 1000000 in
theorem aread_any {f a c : Nat} (hk : KindOf n f a c) (h : ARun w wi F p go gs pd ps n L D) :
    Calls Try.prog 77 #[.pointer (some ⟨ps, 0, none⟩), .func (.func f) #[.pointer (some ⟨ps, 0, none⟩)] #[]] wi fun e w' => ∃ g cap, e = .returned (.tuple #[.agg (kindV a c), .slice (some ⟨g, 0, none⟩) 128 cap, .int .i64 0]) ∧ Bytes wi w' g cap (L.val D a) := by
  have hf := hk.facts h.log.n64 h.log.most
  have HK := Lib.hid (fun (W : World) (hb : Below wi.heap.size wi W) => kind_any hk (h.free hb).space h.log.n64 h.log.most)
  have HR := Lib.hid (fun (W : World) (hb : Below wi.heap.size wi W) => (h.free hb).log.readB (k := a) (.inr hf.1) hf.2.1)
  have HC := Lib.hid (fun (W : World) (hb : Below wi.heap.size wi W) => space_cells (h.free hb).space)
  obtain ⟨l, hl⟩ : ∃ l, l = L.val D a := ⟨_, rfl⟩
  rw [← hl] at HR ⊢
  have hkis := hk.is
  clear h hk hf hl
  rcases hkis with ⟨rfl, ha, hc⟩ | ⟨rfl, ha, hc⟩
  all_goals
    have HKI := Lib.hid (And.intro ha hc)
    clear ha hc
    go_enter Try.func77, Try.ntmps77
    go_wp2_with fail
    have hb0 : Below wi.heap.size wi (wi.alloc (.cells #[.int .i64 0, .int .i64 0] 121)) := (Below.refl _ _).alloc (Nat.le_refl _) _
    have hkc := HK.out _ hb0
    unfold kindV at hkc
    have HKC := Lib.hid hkc
    clear hkc
    refine HKC.out.mono ?_
    rintro e w1 ⟨rfl, hb1⟩
    have hb1' : Below wi.heap.size wi w1 := hb0.trans (hb1.mono hb0.size)
    have hB0 := (Blk.new wi 121 #[.int .i64 0, .int .i64 0]).below hb1 (by simp)
    have hb2 : Below wi.heap.size wi (w1.alloc (.cells #[.int .i64 (a : Int), .int .i64 (c : Int)] 121)) := hb1'.alloc hb1'.size _
    have hB2 := hB0.alloc (.cells #[.int .i64 (a : Int), .int .i64 (c : Int)] 121)
    obtain ⟨c0, _, _, _, _, _, _⟩ := HC.out _ hb2
    have hK2 := Blk.new w1 121 #[.int .i64 (a : Int), .int .i64 (c : Int)]
    have HB2 := Lib.hid hb2
    have HBK := Lib.hid (And.intro hB2 hK2)
    clear hb0 hb1 hb1' hB0 hb2 hB2
    go_wp2_with fail
    have hk0 := hK2.cell 0
    have hkeep : ∀ W, Below (w1.alloc (.cells #[.int .i64 (a : Int), .int .i64 (c : Int)] 121)).heap.size (w1.alloc (.cells #[.int .i64 (a : Int), .int .i64 (c : Int)] 121)) W → W.cell? ⟨ps, 0, none⟩ = some (.pointer (some ⟨p, 0, none⟩)) ∧ W.cell? ⟨w1.heap.size, 0, none⟩ = some (.int .i64 (a : Int)) := fun W hW =>
      ⟨(HC.out W (HB2.out.trans (hW.mono HB2.out.size))).1, (hK2.below hW hK2.lt).cell 0⟩
    have HKEEP := Lib.hid hkeep
    have hbd : Below (w1.alloc (.cells #[.int .i64 (a : Int), .int .i64 (c : Int)] 121)).heap.size (w1.alloc (.cells #[.int .i64 (a : Int), .int .i64 (c : Int)] 121)) (w1.alloc (.cells #[.int .i64 (a : Int), .int .i64 (c : Int)] 121)).drew := (Below.refl _ _).drew
    clear hkeep hK2
    go_region_held3 (fun W => W.cell? ⟨ps, 0, none⟩ = some (.pointer (some ⟨p, 0, none⟩)) ∧ W.cell? ⟨w1.heap.size, 0, none⟩ = some (.int .i64 (a : Int))) (first | exact HKEEP.out _ (by assumption)) ((go_at_call 13; refine (HR.out _ HB2.out.drew).mono ?_; rintro e w3 ⟨g, cap, rfl, hby⟩; have hbw3 := hbd.trans hby.below))
    have hB3 := HBK.out.1.drew.below hby.below HBK.out.1.drew.lt
    have hK3 := HBK.out.2.drew.below hby.below HBK.out.2.drew.lt
    have HBY := Lib.hid hby
    have hld := LoadS.of_blk (P := Try.prog) (ty := 121) (o := 0) (n := 2) hK3 Try.underlying121 rfl i_kind (by simp)
    rw [show (#[Value.int .i64 (a : Int), Value.int .i64 (c : Int)] : Array Value).extract 0 (0 + 2) = #[.int .i64 (a : Int), .int .i64 (c : Int)] by simp] at hld
    have hst := StoreS.of_blk (P := Try.prog) (o := 0) (ty := 121) (vs := #[.int .i64 (a : Int), .int .i64 (c : Int)]) hB3 i_kind (by simp) (fun v hv => by simp at hv; rcases hv with rfl | rfl <;> rfl)
    generalize hrow : ((#[Value.int .i64 0, Value.int .i64 0] : Array Value).toList.take 0 ++ (#[Value.int .i64 (a : Int), Value.int .i64 (c : Int)] : Array Value).toList ++ (#[Value.int .i64 0, Value.int .i64 0] : Array Value).toList.drop (0 + (#[Value.int .i64 (a : Int), Value.int .i64 (c : Int)] : Array Value).toList.length)).toArray = row at hst
    have hrow2 : row = #[.int .i64 (a : Int), .int .i64 (c : Int)] := by rw [← hrow]; rfl
    rw [hrow2] at hst
    obtain ⟨w4, hw4⟩ : ∃ w4, w4 = w3.setRow wi.heap.size #[.int .i64 (a : Int), .int .i64 (c : Int)] := ⟨_, rfl⟩
    rw [← hw4] at hst
    have HB4 := Lib.hid (show Blk w4 wi.heap.size 121 #[.int .i64 (a : Int), .int .i64 (c : Int)] by rw [hw4]; exact hB3.row _)
    have HW4 := Lib.hid hw4
    clear hby hB3 hK3 hrow hrow2 hw4 hk0 hbd hbw3
    go_wp2_with fail
    (try simp only [Exit.inBlock, Exit.then])
    refine bodyPost_ret (results_row3 (t := 4) (g := wi.heap.size) rfl rfl HB4.out Try.underlying121 rfl i_kind) rfl ⟨g, cap, rfl, ?_⟩
    obtain ⟨cur, q1, q2, q3⟩ := HBY.out.at_
    have hne : g ≠ wi.heap.size := by have := HBY.out.new; have := HBK.out.1.lt; simp only [World.size_drew] at *; omega
    rw [HW4.out]
    refine ⟨below_setRow (HB2.out.drew.trans (HBY.out.below.mono HB2.out.drew.size)) (Nat.le_refl _) _, Nat.le_trans HB2.out.drew.size HBY.out.new, HBY.out.len, HBY.out.capOk, cur, q1.row_far hne _, q2, q3⟩
end
end Go.Proofs.Ytmhgahkainmbkaa
namespace Go.Proofs.Ytmhgahkainmbkaa
open Go.RowKit
set_option linter.unusedVariables false
set_option linter.unusedSimpArgs false
section
attribute [local go_sem ↓] load_kind_mark store_kind_mark
attribute [local go_sem] store_kind
variable {w : Ground} {wi wj : World} {p go gs pd ps n : Nat} {L L' : LogM} {F Fj : Nat → Prop} {D : DiskM}
theorem bit_test (b : List UInt8) (q : Nat) : (bits BinOp.and IntKind.u8 (((b.getD (q / 8) 0).toNat : Int) / 2 ^ (q % 8)) 1 == 1) = bitAt b q := by
  unfold bitAt
  generalize b.getD (q / 8) 0 = x
  have hj : q % 8 < 8 := Nat.mod_lt _ (by decide)
  generalize q % 8 = j at hj
  have key : ∀ x : Fin 256, ∀ j : Fin 8, (bits BinOp.and IntKind.u8 ((x.1 : Int) / 2 ^ j.1) 1 == 1) = x.1.testBit j.1 := by decide +kernel
  exact key ⟨x.toNat, x.toNat_lt⟩ ⟨j, hj⟩
set_option maxRecDepth 100000 in
set_option maxHeartbeats 1000000 in
theorem ahas_any {f a c : Nat} (hk : KindOf n f a c) (h : ARun w wi F p go gs pd ps n L D) (i : Int) (hi : -9223372036854775808 ≤ i ∧ i ≤ 9223372036854775807) :
    Calls Try.prog 55 #[.pointer (some ⟨ps, 0, none⟩), .func (.func f) #[.pointer (some ⟨ps, 0, none⟩)] #[], .int .i64 i] wi fun e w' => e = .returned (.tuple #[.bool (hasB (L.val D a) c i), .int .i64 0]) ∧ Below wi.heap.size wi w' := by
  obtain ⟨_, _, hc, _⟩ := hk.facts h.log.n64 h.log.most
  have HR := Lib.hid (aread_any hk h)
  obtain ⟨l, hl⟩ : ∃ l, l = L.val D a := ⟨_, rfl⟩
  rw [← hl] at HR ⊢
  obtain ⟨hi1, hi2⟩ := hi
  clear h hk hl
  by_cases h0 : 0 ≤ i
  · obtain ⟨q, rfl⟩ : ∃ q : Nat, i = (q : Int) := ⟨i.toNat, by omega⟩
    by_cases hq : q < c
    · have hb := bit_test l q
      have hval : hasB l c (q : Int) = bitAt l q := by unfold hasB; rw [decide_eq_true (by omega)]; simp
      rw [hval]
      clear hval h0 hi1
      go_enter Try.func55, Try.ntmps55
      go_wp2_with fail
      refine HR.out.mono ?_
      rintro e w1 ⟨g, cap, rfl, hby⟩
      unfold kindV
      have hst := store_kind a c w1
      have hx := (hby.free ((Below.refl w1.heap.size w1).alloc (Nat.le_refl _) (.cells #[.int .i64 (a : Int), .int .i64 (c : Int)] 121))).cell (j := q / 8) (by omega)
      go_wp2_with fail
      have HBL := Lib.hid (hby.below.alloc hby.below.size (.cells #[.int .i64 (a : Int), .int .i64 (c : Int)] 121))
      go_ret2
      refine ⟨?_, HBL.out⟩
      rw [← hb]
      simp
    · have hval : hasB l c (q : Int) = false := by unfold hasB; rw [decide_eq_false (by omega)]; simp
      have hqc : ¬ (q : Int) < (c : Int) := by omega
      rw [hval]
      clear hval h0 hi1 hq
      go_enter Try.func55, Try.ntmps55
      go_wp2_with fail
      refine HR.out.mono ?_
      rintro e w1 ⟨g, cap, rfl, hby⟩
      unfold kindV
      have hst := store_kind a c w1
      have HBL := Lib.hid (hby.below.alloc hby.below.size (.cells #[.int .i64 (a : Int), .int .i64 (c : Int)] 121))
      clear hby
      go_wp2_with fail
      go_ret2
      exact ⟨rfl, HBL.out⟩
  · have hval : hasB l c i = false := by unfold hasB; rw [decide_eq_false (by omega)]; simp
    rw [hval]
    clear hval hi1
    go_enter Try.func55, Try.ntmps55
    go_wp2_with fail
    refine HR.out.mono ?_
    rintro e w1 ⟨g, cap, rfl, hby⟩
    unfold kindV
    have hst := store_kind a c w1
    have HBL := Lib.hid (hby.below.alloc hby.below.size (.cells #[.int .i64 (a : Int), .int .i64 (c : Int)] 121))
    clear hby
    go_wp2_with fail
    go_ret2
    exact ⟨rfl, HBL.out⟩
theorem bit_val (b : List UInt8) (q : Nat) : bits BinOp.and IntKind.u8 (((b[q / 8]?.getD 0).toNat : Int) / 2 ^ (q % 8)) 1 = if bitAt b q then 1 else 0 := by
  unfold bitAt
  rw [List.getD_eq_getElem?_getD]
  generalize b[q / 8]?.getD 0 = x
  have hj : q % 8 < 8 := Nat.mod_lt _ (by decide)
  generalize q % 8 = j at hj
  have key : ∀ x : Fin 256, ∀ j : Fin 8, bits BinOp.and IntKind.u8 ((x.1 : Int) / 2 ^ j.1) 1 = if x.1.testBit j.1 then 1 else 0 := by decide +kernel
  exact key ⟨x.toNat, x.toNat_lt⟩ ⟨j, hj⟩
theorem freeN_le (b : List UInt8) : ∀ k, freeN b k ≤ k
  | 0 => Nat.le_refl _
  | k + 1 => by have := freeN_le b k; unfold freeN; split <;> omega
set_option maxRecDepth 100000 in
set_option maxHeartbeats 1000000 in
theorem afree_any {f a c : Nat} (hk : KindOf n f a c) (h : ARun w wi F p go gs pd ps n L D) :
    Calls Try.prog 52 #[.pointer (some ⟨ps, 0, none⟩), .func (.func f) #[.pointer (some ⟨ps, 0, none⟩)] #[]] wi fun e w' => e = .returned (.tuple #[.int .i64 (freeN (L.val D a) c : Int), .int .i64 0]) ∧ Below wi.heap.size wi w' := by
  obtain ⟨_, _, hc, _⟩ := hk.facts h.log.n64 h.log.most
  have HR := Lib.hid (aread_any hk h)
  obtain ⟨l, hl⟩ : ∃ l, l = L.val D a := ⟨_, rfl⟩
  rw [← hl] at HR ⊢
  clear h hk hl
  go_enter Try.func52, Try.ntmps52
  go_wp2_with fail
  refine HR.out.mono ?_
  rintro e w1 ⟨g, cap, rfl, hby⟩
  unfold kindV
  have hst := store_kind a c w1
  obtain ⟨w2, hw2⟩ : ∃ w2, w2 = w1.alloc (.cells #[.int .i64 (a : Int), .int .i64 (c : Int)] 121) := ⟨_, rfl⟩
  have hb2 : Below w1.heap.size w1 w2 := by rw [hw2]; exact (Below.refl _ _).alloc (Nat.le_refl _) _
  have hK := Blk.new w1 121 #[.int .i64 (a : Int), .int .i64 (c : Int)]
  rw [← hw2] at hK
  have HBY := Lib.hid (hby.free hb2)
  have HK := Lib.hid hK
  have HW2 := Lib.hid hw2
  clear hby hw2 hb2 hK
  go_wp2_with fail
  rw [← HW2.out]
  go_loopw [9, 10] (fun o i wr => ∃ k : Nat, k ≤ c ∧ i = .int .i64 (k : Int) ∧ o = .int .i64 (freeN l k : Int) ∧ wr = w2) (fun _ i _ => c - (intOf i).toNat)
  case atStart => exact ⟨0, Nat.zero_le _, rfl, rfl, rfl⟩
  case round =>
    obtain ⟨k, hkc, rfl, rfl, rfl⟩ := hrel
    have hc1 := HK.out.cell 1
    have hfk := freeN_le l k
    by_cases hlt : k < c
    · have hx := HBY.out.cell (j := k / 8) (by omega)
      have hbv := bit_val l k
      cases hb : bitAt l k with
      | true =>
        have hs : freeN l (k + 1) = freeN l k := by rw [freeN, hb]; rfl
        have HS := Lib.hid hs
        rw [hb, if_pos rfl] at hbv
        clear hs hb
        go_wp2_with fail
        refine ⟨⟨k + 1, by omega, by go_num, ?_, trivial⟩, by simp [intOf]; omega⟩
        rw [HS.out]
      | false =>
        have hs : freeN l (k + 1) = freeN l k + 1 := by rw [freeN, hb]; rfl
        have HS := Lib.hid hs
        rw [hb, if_neg (by decide)] at hbv
        clear hs hb
        go_wp2_with fail
        refine ⟨⟨k + 1, by omega, by go_num, ?_, trivial⟩, by simp [intOf]; omega⟩
        rw [HS.out]
        go_num
    · obtain rfl : k = c := by omega
      go_wp2_with fail
      go_ret2
      exact ⟨rfl, HBY.out.below⟩
end
end Go.Proofs.Ytmhgahkainmbkaa
namespace Go.Proofs.Ytmhgahkainmbkaa
open Go.RowKit
set_option linter.unusedVariables false
set_option linter.unusedSimpArgs false
theorem xor_u8 (x y : UInt8) : bits BinOp.xor IntKind.u8 (x.toNat : Int) (y.toNat : Int) = ((x ^^^ y).toNat : Int) := by
  have h : ∀ z : UInt8, BitVec.ofInt 8 (z.toNat : Int) = z.toBitVec := fun z => by
    apply BitVec.eq_of_toNat_eq
    have := z.toNat_lt
    rw [BitVec.toNat_ofInt]
    show ((z.toNat : Int) % (2 ^ 8 : Nat)).toNat = z.toNat
    omega
  show IntKind.u8.wrap ((BitVec.ofInt 8 (x.toNat : Int) ^^^ BitVec.ofInt 8 (y.toNat : Int)).toNat : Int) = _
  rw [h, h]
  have := (x ^^^ y).toNat_lt
  show IntKind.u8.wrap ((x ^^^ y).toNat : Int) = _
  generalize (x ^^^ y).toNat = m at *
  simp [IntKind.wrap, IntKind.bits, IntKind.signed]
  omega
section
attribute [local go_sem ↓] load_kind_mark store_kind_mark
attribute [local go_sem] store_kind
variable {w : Ground} {wi wj : World} {p go gs pd ps n : Nat} {L L' : LogM} {F Fj : Nat → Prop} {D : DiskM}
set_option maxRecDepth 100000 in
set_option maxHeartbeats 1000000 in
theorem aturn_any {f a c : Nat} (hk : KindOf n f a c) (h : ARun w wi F p go gs pd ps n L D) {q : Nat} (hq : q < c) :
    Calls Try.prog 56 #[.pointer (some ⟨ps, 0, none⟩), .func (.func f) #[.pointer (some ⟨ps, 0, none⟩)] #[], .int .i64 (q : Int)] wi fun e w' => e = .returned (.int .i64 (turnR n L D a q).1) ∧ ARun w w' F p go gs pd ps n (turnR n L D a q).2 D := by
  obtain ⟨ha1, ha2, hc, _⟩ := hk.facts h.log.n64 h.log.most
  have HR := Lib.hid (aread_any hk h)
  have H := Lib.hid h
  have HA := Lib.hid (And.intro ha1 ha2)
  obtain ⟨l, hl⟩ : ∃ l, l = L.val D a := ⟨_, rfl⟩
  rw [← hl] at HR
  have HL := Lib.hid hl
  obtain ⟨x, hx⟩ : ∃ x, x = l.getD (q / 8) 0 := ⟨_, rfl⟩
  have HX := Lib.hid hx
  clear h hk hl ha1 ha2 hx
  go_enter Try.func56, Try.ntmps56
  go_wp2_with fail
  refine HR.out.mono ?_
  rintro e w1 ⟨g, cap, rfl, hby⟩
  unfold kindV
  have hst := store_kind a c w1
  obtain ⟨w2, hw2⟩ : ∃ w2, w2 = w1.alloc (.cells #[.int .i64 (a : Int), .int .i64 (c : Int)] 121) := ⟨_, rfl⟩
  have hb2 : Below w1.heap.size w1 w2 := by rw [hw2]; exact (Below.refl _ _).alloc (Nat.le_refl _) _
  have hK := Blk.new w1 121 #[.int .i64 (a : Int), .int .i64 (c : Int)]
  rw [← hw2] at hK
  have hby2 := hby.free hb2
  have hxc := hby2.cell (j := q / 8) (by omega)
  rw [← HX.out] at hxc
  have hfz := hby2.frozen (q / 8)
  rw [hw2] at hxc hfz
  have HBY := Lib.hid hby2
  have HK := Lib.hid hK
  have HW2 := Lib.hid hw2
  clear hby hw2 hb2 hK hby2
  go_wp2_with fail
  go_region
  all_goals
    have hxor : bits BinOp.xor IntKind.u8 (x.toNat : Int) (2 ^ (q % 8) % 256) = ((x ^^^ UInt8.ofNat (2 ^ (q % 8))).toNat : Int) := by
      rw [← xor_u8, show ((UInt8.ofNat (2 ^ (q % 8))).toNat : Int) = 2 ^ (q % 8) % 256 by
        rw [UInt8.toNat_ofNat']
        push_cast
        rfl]
    rw [hxor, ← HW2.out]
    clear hxor hxc hfz
    obtain ⟨w3, hw3⟩ : ∃ w3, w3 = (w2.setCell ⟨g, q / 8, none⟩ (.int .u8 ((x ^^^ UInt8.ofNat (2 ^ (q % 8))).toNat : Int))).drew := ⟨_, rfl⟩
    rw [← hw3]
    have hby3 : Bytes wi w3 g cap (flipAt l q) := by
      have h1 := HBY.out.set (j := q / 8) (by omega) (x ^^^ UInt8.ofNat (2 ^ (q % 8))) rfl
      rw [HX.out] at h1
      rw [hw3, HX.out]
      obtain ⟨cur, q1, q2, q3⟩ := h1.at_
      exact ⟨h1.below.drew, h1.new, h1.len, h1.capOk, cur, q1.drew, q2, q3⟩
    have hne : w1.heap.size ≠ g := by
      have h1 := HK.out.lt
      obtain ⟨cur, q1, _, _⟩ := HBY.out.at_
      intro e
      rw [← e] at q1
      exact absurd rfl (Blk.ne_ HK.out q1 (by decide))
    have hK3 : Blk w3 w1.heap.size 121 #[.int .i64 (a : Int), .int .i64 (c : Int)] := by
      rw [hw3]
      exact ((heap_set_far w2 g (q / 8) (.int .u8 ((x ^^^ UInt8.ofNat (2 ^ (q % 8))).toNat : Int)) w1.heap.size hne).trans HK.out)
    have hA3 := H.out.free hby3.below
    have hst := hA3.stage (k := a) (.inr HA.out.1) HA.out.2 (z := (a : Int)) rfl hby3.len hby3.slc
    have hc0 := (space_cells hA3.space).1
    have hk0 := hK3.cell 0
    have hstD := (hA3.drew).stage (k := a) (.inr HA.out.1) HA.out.2 (z := (a : Int)) rfl hby3.len (hby3.free (Below.refl _ w3).drew).slc
    have HST := Lib.hid hstD
    have hR : turnR n L D a q = (L.stageE n (a : Int) 128, L.stage n (a : Int) 128 (flipAt l q)) := by rw [HL.out]; rfl
    have HRR := Lib.hid hR
    clear hw3 hby3 hne hK3 hA3 hst hstD hR
    go_wp2_with fail
    refine region_tail 7 (by kernel_rfl) (by kernel_rfl) ?_
    simp only [List.take_succ_cons, List.take_zero, List.drop_succ_cons, List.drop_zero]
    repeat still_step
    refine wpStill_nil ?_
    go_wp2_with fail
    refine HST.out.mono ?_
    rintro e w4 ⟨rfl, hA4⟩
    have HA4 := Lib.hid hA4
    clear hA4
    go_wp2_with fail
    go_ret
    rw [HRR.out]
    exact ⟨rfl, HA4.out⟩
theorem field_kind (a c : Nat) (W : World) : Sem.run Try.prog (Instr.field 121 (.agg #[.int .i64 (a : Int), .int .i64 (c : Int)]) 1) W = .ok (.int .i64 (c : Int)) W := by kernel_rfl
attribute [local go_sem] field_kind
theorem kind_plain {f a c : Nat} (hk : KindOf n f a c) (h : SpaceAt wi ps p n) (h1 : 64 ≤ n) (h2 : n ≤ 1024) : Calls Try.prog f #[.pointer (some ⟨ps, 0, none⟩)] wi fun e w' => e = .returned (.agg #[.int .i64 (a : Int), .int .i64 (c : Int)]) ∧ Below wi.heap.size wi w' := kind_any hk h h1 h2
set_option maxRecDepth 100000 in
set_option maxHeartbeats 2000000 in
theorem aleast_any {f a c : Nat} (hk : KindOf n f a c) (h : ARun w wi F p go gs pd ps n L D) :
    Calls Try.prog 54 #[.pointer (some ⟨ps, 0, none⟩), .func (.func f) #[.pointer (some ⟨ps, 0, none⟩)] #[]] wi fun e w' => e = .returned (.tuple #[.int .i64 (leastR n L D a c).1, .int .i64 (leastR n L D a c).2.1]) ∧ ARun w w' F p go gs pd ps n (leastR n L D a c).2.2 D := by
  obtain ⟨ha1, ha2, hc, _⟩ := hk.facts h.log.n64 h.log.most
  have HKC := Lib.hid (kind_plain hk h.space h.log.n64 h.log.most)
  have HHAS := Lib.hid (fun (W : World) (hA : ARun w W F p go gs pd ps n L D) (i : Nat) (hi : i ≤ 1024) => ahas_any hk hA (i : Int) (by omega))
  have HTURN := Lib.hid (fun (W : World) (hA : ARun w W F p go gs pd ps n L D) (i : Nat) (hi : i < c) => aturn_any hk hA hi)
  have H := Lib.hid h
  obtain ⟨R, hR⟩ : ∃ R, R = leastR n L D a c := ⟨_, rfl⟩
  rw [← hR]
  have HR := Lib.hid hR
  have hkis := hk.is
  clear h hk ha1 ha2 hR
  rcases hkis with ⟨rfl, ha, hcc⟩ | ⟨rfl, ha, hcc⟩
  all_goals
    have HKI := Lib.hid (And.intro ha hcc)
    clear ha hcc
    go_enter Try.func54, Try.ntmps54
    go_wp2_with fail
    refine HKC.out.mono ?_
    rintro e w1 ⟨rfl, hb1⟩
    have HA1 := Lib.hid (H.out.free hb1)
    clear hb1
    go_wp2_with fail
    go_loopw [12] (fun i wr => ∃ k : Nat, k ≤ c ∧ i = .int .i64 (k : Int) ∧ leastN (L.val D a) c = leastFrom (L.val D a) k (c - k) ∧ ARun w wr F p go gs pd ps n L D) (fun i _ => c - (intOf i).toNat)
    case atStart => exact ⟨0, Nat.zero_le _, rfl, rfl, HA1.out⟩
    case round =>
      obtain ⟨k, hkc, rfl, hle, hA⟩ := hrel
      have HA := Lib.hid hA
      have HLE := Lib.hid hle
      clear hA hle
      by_cases hlt : k < c
      · have hhs := HHAS.out wr HA.out k (by omega)
        have hhv : hasB (L.val D a) c (k : Int) = bitAt (L.val D a) k := by unfold hasB; rw [decide_eq_true (by omega)]; simp
        rw [hhv] at hhs
        have HHS := Lib.hid hhs
        have hun : leastFrom (L.val D a) k (c - k) = if bitAt (L.val D a) k then leastFrom (L.val D a) (k + 1) (c - (k + 1)) else some k := by
          rw [show c - k = (c - (k + 1)) + 1 by omega]
          rfl
        have HUN := Lib.hid hun
        obtain ⟨b, hb⟩ : ∃ b, b = bitAt (L.val D a) k := ⟨_, rfl⟩
        have HB := Lib.hid hb
        rw [← hb] at HHS
        clear hhs hhv hun hb
        go_wp2_with fail
        refine HHS.out.mono ?_
        rintro e w2 ⟨rfl, hb2⟩
        have HA2 := Lib.hid (HA.out.free hb2)
        clear hb2
        cases b with
        | true =>
          go_wp2_with fail
          refine ⟨⟨k + 1, by omega, by go_num, ?_, HA2.out⟩, by simp [intOf]; omega⟩
          rw [HLE.out, HUN.out, ← HB.out, if_pos rfl]
        | false =>
          have hRk : R = ((k : Int), turnR n L D a k) := by
            rw [HR.out]
            unfold leastR
            rw [HLE.out, HUN.out, ← HB.out, if_neg (by decide)]
          have HRK := Lib.hid hRk
          clear hRk
          go_wp2_with fail
          refine (HTURN.out w2 HA2.out k hlt).mono ?_
          rintro e w3 ⟨rfl, hA3⟩
          have HA3 := Lib.hid hA3
          clear hA3
          go_wp2_with fail
          go_ret2
          rw [HRK.out]
          exact ⟨rfl, HA3.out⟩
      · have HRN := Lib.hid (show R = (0, 47, L) by
          rw [HR.out]
          unfold leastR
          rw [HLE.out, show c - k = 0 by omega]
          rfl)
        go_wp2_with fail
        go_ret2
        rw [HRN.out]
        exact ⟨rfl, HA.out⟩
end
end Go.Proofs.Ytmhgahkainmbkaa
