/- The walks of Block, Has, HasInode, Blocks, Inodes, Free, FreeInode. The walks of Block, Free, FreeInode. The walk of Inode. -/
import Derived.Test.YtmhgahkainmbkaaAllocC
namespace Go.Proofs.Ytmhgahkainmbkaa
open Go.RowKit
set_option linter.unusedVariables false
set_option linter.unusedSimpArgs false
variable {w : Ground} {wi wj : World} {p go gs pd ps n : Nat} {L L' : LogM} {F Fj : Nat → Prop} {D : DiskM}
theorem kindB (n : Nat) : KindOf n 53 (lMap n) (n - lData n) := ⟨.inl ⟨rfl, rfl, rfl⟩⟩
theorem kindI (n : Nat) : KindOf n 67 (lNodes n) (lInodes n) := ⟨.inr ⟨rfl, rfl, rfl⟩⟩
theorem leastR_facts (n : Nat) (L : LogM) (D : DiskM) (a c : Nat) : (leastR n L D a c).2.1 = 0 → ∃ q : Nat, (leastR n L D a c).1 = (q : Int) ∧ q < c := by
  unfold leastR leastN
  cases hl : leastFrom (L.val D a) 0 c with
  | none => intro h; simp at h
  | some q =>
    intro _
    have := leastFrom_some hl
    exact ⟨q, rfl, by omega⟩
section
set_option maxRecDepth 100000 in
theorem ahasInode_any (h : ARun w wi F p go gs pd ps n L D) (i : Int) (hi : -9223372036854775808 ≤ i ∧ i ≤ 9223372036854775807) :
    Calls Try.prog 51 #[.pointer (some ⟨ps, 0, none⟩), .int .i64 i] wi fun e w' => e = .returned (.tuple #[.bool (hasInode n L D i), .int .i64 0]) ∧ Below wi.heap.size wi w' := by
  have HH := Lib.hid (fun (j : Int) (hj : -9223372036854775808 ≤ j ∧ j ≤ 9223372036854775807) => ahas_any (kindI n) h j hj)
  have HI := Lib.hid hi
  obtain ⟨b, hb⟩ : ∃ b, b = hasInode n L D i := ⟨_, rfl⟩
  rw [← hb]
  clear h hi
  by_cases h0 : i = 0
  · subst h0
    have hh := HH.out (-1) (by omega)
    rw [show hasB (L.val D (lNodes n)) (lInodes n) (-1) = b by rw [hb]; rfl] at hh
    have HHH := Lib.hid hh
    clear hb hh
    go_enter Try.func51, Try.ntmps51
    go_wp2_with fail
    refine HHH.out.mono ?_
    rintro e w1 ⟨rfl, hb1⟩
    go_wp2_with fail
    go_ret2
    exact ⟨rfl, hb1⟩
  · have hh := HH.out i HI.out
    rw [show hasB (L.val D (lNodes n)) (lInodes n) i = b by rw [hb]; unfold hasInode; rw [if_neg h0]] at hh
    have HHH := Lib.hid hh
    have hne : (i == 0) = false := by simpa using h0
    clear hb hh h0
    go_enter Try.func51, Try.ntmps51
    go_wp2_with fail
    refine HHH.out.mono ?_
    rintro e w1 ⟨rfl, hb1⟩
    go_wp2_with fail
    go_ret2
    exact ⟨rfl, hb1⟩
theorem ablocks_any (h : ARun w wi F p go gs pd ps n L D) :
    Calls Try.prog 21 #[.pointer (some ⟨ps, 0, none⟩)] wi fun e w' => e = .returned (.tuple #[.int .i64 (freeN (L.val D (lMap n)) (n - lData n) : Int), .int .i64 0]) ∧ Below wi.heap.size wi w' := by
  have HF := Lib.hid (afree_any (kindB n) h)
  clear h
  go_enter Try.func21, Try.ntmps21
  go_wp2_with fail
  refine HF.out.mono ?_
  rintro e w1 ⟨rfl, hb1⟩
  go_wp2_with fail
  go_ret2
  exact ⟨rfl, hb1⟩
theorem ainodes_any (h : ARun w wi F p go gs pd ps n L D) :
    Calls Try.prog 30 #[.pointer (some ⟨ps, 0, none⟩)] wi fun e w' => e = .returned (.tuple #[.int .i64 (freeN (L.val D (lNodes n)) (lInodes n) : Int), .int .i64 0]) ∧ Below wi.heap.size wi w' := by
  have HF := Lib.hid (afree_any (kindI n) h)
  clear h
  go_enter Try.func30, Try.ntmps30
  go_wp2_with fail
  refine HF.out.mono ?_
  rintro e w1 ⟨rfl, hb1⟩
  go_wp2_with fail
  go_ret2
  exact ⟨rfl, hb1⟩
set_option maxRecDepth 100000 in
theorem ahasBlock_any (h : ARun w wi F p go gs pd ps n L D) (i : Int) (hi : -9223372036854775808 ≤ i ∧ i ≤ 9223372036854775807) :
    Calls Try.prog 23 #[.pointer (some ⟨ps, 0, none⟩), .int .i64 i] wi fun e w' => e = .returned (.tuple #[.bool (hasBlock n L D i), .int .i64 0]) ∧ Below wi.heap.size wi w' := by
  have HH := Lib.hid (fun (j : Int) (hj : -9223372036854775808 ≤ j ∧ j ≤ 9223372036854775807) => ahas_any (kindB n) h j hj)
  obtain ⟨c0, c1, c4, c5, c6, c7, c8⟩ := space_cells h.space
  have hd : lData n < n := by have := lay_facts h.log.n64 h.log.most; omega
  have hm := h.log.most
  obtain ⟨hi1, hi2⟩ := hi
  obtain ⟨b, hb⟩ : ∃ b, b = hasBlock n L D i := ⟨_, rfl⟩
  rw [← hb]
  clear h
  by_cases h0 : i < (lData n : Int)
  · have hh := HH.out (-1) (by omega)
    rw [show hasB (L.val D (lMap n)) (n - lData n) (-1) = b by rw [hb]; unfold hasBlock; rw [if_pos h0]] at hh
    have HHH := Lib.hid hh
    clear hb hh
    go_enter Try.func23, Try.ntmps23
    go_wp2_with fail
    refine HHH.out.mono ?_
    rintro e w1 ⟨rfl, hb1⟩
    go_wp2_with fail
    go_ret2
    exact ⟨rfl, hb1⟩
  · have hh := HH.out (i - (lData n : Int)) (by omega)
    rw [show hasB (L.val D (lMap n)) (n - lData n) (i - (lData n : Int)) = b by rw [hb]; unfold hasBlock; rw [if_neg h0]] at hh
    have HHH := Lib.hid hh
    have hw : IntKind.i64.wrap (i - (lData n : Int)) = i - (lData n : Int) := IntWalk.i64_in _ (by omega)
    clear hb hh
    go_enter Try.func23, Try.ntmps23
    go_wp2_with fail
    refine HHH.out.mono ?_
    rintro e w1 ⟨rfl, hb1⟩
    go_wp2_with fail
    go_ret2
    exact ⟨rfl, hb1⟩
end
end Go.Proofs.Ytmhgahkainmbkaa
namespace Go.Proofs.Ytmhgahkainmbkaa
open Go.RowKit
set_option linter.unusedVariables false
set_option linter.unusedSimpArgs false
variable {w : Ground} {wi wj : World} {p go gs pd ps n : Nat} {L L' : LogM} {F Fj : Nat → Prop} {D : DiskM}
section
attribute [local go_sem ↓] make_bytes_mark
attribute [local go_sem] make128
set_option maxRecDepth 100000 in
set_option maxHeartbeats 2000000 in
theorem ablock_any (h : ARun w wi F p go gs pd ps n L D) :
    Calls Try.prog 22 #[.pointer (some ⟨ps, 0, none⟩)] wi fun e w' => e = .returned (.tuple #[.int .i64 (blockR n L D).1, .int .i64 (blockR n L D).2.1]) ∧ ARun w w' F p go gs pd ps n (blockR n L D).2.2 D := by
  have hle := aleast_any (kindB n) h
  have hlf := leastR_facts n L D (lMap n) (n - lData n)
  obtain ⟨R, hR⟩ : ∃ R, R = blockR n L D := ⟨_, rfl⟩
  rw [← hR]
  obtain ⟨r, hr⟩ : ∃ r, r = leastR n L D (lMap n) (n - lData n) := ⟨_, rfl⟩
  rw [← hr] at hle hlf
  have hRb : R = blockEnd n (lData n) r := by rw [hR, hr]; rfl
  obtain ⟨r1, E, L1⟩ := r
  simp only at hle hlf
  have hlay := lay_facts h.log.n64 h.log.most
  have hmost := h.log.most
  have HLE := Lib.hid hle
  have HRB := Lib.hid hRb
  have HLF := Lib.hid hlf
  have HLAY := Lib.hid (show lMap n ≤ lData n ∧ lData n < n by omega)
  clear h hle hlf hR hr hRb hlay
  go_enter Try.func22, Try.ntmps22
  go_wp2_with fail
  refine HLE.out.mono ?_
  rintro e w1 ⟨rfl, hA1⟩
  by_cases hE : E = 0
  · subst hE
    obtain ⟨q, rfl, hq⟩ := HLF.out rfl
    have hst := fun (W : World) (hb : Below w1.heap.size w1 W) => by
      have h2 := (hA1.free hb).free ((Below.refl W.heap.size W).alloc (Nat.le_refl _) (.cells (zbytes 128) 5))
      have hz : Blk (W.alloc (.cells (zbytes 128) 5)) W.heap.size 5 (zsec.map bv).toArray := by rw [← zbytes_z]; exact Blk.new _ _ _
      exact h2.stage (k := lData n + q) (.inr (by have := HLAY.out; omega)) (by have := HLAY.out; omega) (z := (lData n : Int) + (q : Int)) (by omega) (by simp [zsec]) (bytes_slc (by simp [zsec]) hz)
    obtain ⟨E2, hE2⟩ : ∃ E2, E2 = L1.stageE n ((lData n + q : Nat) : Int) 128 := ⟨_, rfl⟩
    obtain ⟨L2, hL2⟩ : ∃ L2, L2 = L1.stage n ((lData n + q : Nat) : Int) 128 zsec := ⟨_, rfl⟩
    rw [← hE2, ← hL2] at hst
    have hR2 : R = if E2 ≠ 0 then (0, E2, L2) else ((lData n : Int) + (q : Int), 0, L2) := by
      rw [HRB.out, hE2, hL2]
      unfold blockEnd
      rw [if_neg (by simp)]
      rfl
    have HR2 := Lib.hid hR2
    have HST := Lib.hid hst
    have HC := Lib.hid (fun (W : World) (hb : Below w1.heap.size w1 W) => space_cells (hA1.free hb).space)
    have hw : IntKind.i64.wrap ((lData n : Int) + (q : Int)) = (lData n : Int) + (q : Int) := IntWalk.i64_in _ (by have := HLAY.out; omega)
    obtain ⟨c0, c1, c4, c5, c6, c7, c8⟩ := space_cells hA1.space
    have hbd : Below w1.heap.size w1 w1.drew := (Below.refl _ _).drew
    have hbe : Below w1.heap.size w1 (w1.alloc (.cells (zbytes 128) 5)).drew := ((Below.refl _ _).alloc (Nat.le_refl _) _).drew
    clear hst hR2 hE2 hL2 hA1
    go_wp2_with fail
    go_region_held3 (fun W => W.cell? ⟨ps, 0, none⟩ = some (.pointer (some ⟨p, 0, none⟩)) ∧ W.cell? ⟨ps, 8, none⟩ = some (.int .i64 (lData n : Int))) (first | exact ⟨(HC.out _ hbd).1, (HC.out _ hbd).2.2.2.2.2.2⟩ | exact ⟨(HC.out _ hbe).1, (HC.out _ hbe).2.2.2.2.2.2⟩ | exact ⟨(space_cells hA2.space).1, (space_cells hA2.space).2.2.2.2.2.2⟩) ((go_at_call 14; refine (HST.out _ hbd).mono ?_; rintro e w2 ⟨rfl, hA2⟩))
    obtain ⟨d0, d1, d4, d5, d6, d7, d8⟩ := space_cells hA2.space
    have HA2 := Lib.hid hA2
    clear hA2 hbd hbe
    by_cases hE0 : E2 = 0
    · subst hE0
      have HR3 := Lib.hid (show R = ((lData n : Int) + (q : Int), 0, L2) by rw [HR2.out, if_neg (by simp)])
      go_wp2_with fail
      go_ret2
      rw [HR3.out]
      exact ⟨rfl, HA2.out⟩
    · have HR3 := Lib.hid (show R = (0, E2, L2) by rw [HR2.out, if_pos hE0])
      go_wp2_with fail
      go_ret2
      rw [HR3.out]
      exact ⟨rfl, HA2.out⟩
  · have HR3 := Lib.hid (show R = (0, E, L1) by rw [HRB.out]; unfold blockEnd; rw [if_pos hE])
    have HA1 := Lib.hid hA1
    clear hA1
    go_wp2_with fail
    go_ret2
    rw [HR3.out]
    exact ⟨rfl, HA1.out⟩
end
set_option maxRecDepth 100000 in
set_option maxHeartbeats 2000000 in
theorem afreeBlock_any (h : ARun w wi F p go gs pd ps n L D) (i : Int) (hi : -9223372036854775808 ≤ i ∧ i ≤ 9223372036854775807) :
    Calls Try.prog 24 #[.pointer (some ⟨ps, 0, none⟩), .int .i64 i] wi fun e w' => e = .returned (.int .i64 (freeR n L D i).1) ∧ ARun w w' F p go gs pd ps n (freeR n L D i).2 D := by
  have HH := Lib.hid (ahasBlock_any h i hi)
  have H := Lib.hid h
  have HC := Lib.hid (fun (W : World) (hb : Below wi.heap.size wi W) => space_cells (h.free hb).space)
  have hlay := lay_facts h.log.n64 h.log.most
  have hm := h.log.most
  obtain ⟨b, hb⟩ : ∃ b, b = hasBlock n L D i := ⟨_, rfl⟩
  have HB := Lib.hid hb
  rw [← hb] at HH
  obtain ⟨R, hR⟩ : ∃ R, R = freeR n L D i := ⟨_, rfl⟩
  rw [← hR]
  have hRb : R = if b = false then (48, L) else turnR n L D (lMap n) (i - (lData n : Int)).toNat := by rw [hR, hb]; rfl
  cases b with
  | false =>
    have HR := Lib.hid (show R = (48, L) by rw [hRb, if_pos rfl])
    clear h hlay hb hR hRb
    go_enter Try.func24, Try.ntmps24
    go_wp2_with fail
    refine HH.out.mono ?_
    rintro e w1 ⟨rfl, hb1⟩
    have HA := Lib.hid (H.out.free hb1)
    clear hb1
    go_wp2_with fail
    go_ret
    rw [HR.out]
    exact ⟨rfl, HA.out⟩
  | true =>
    have hin : (lData n : Int) ≤ i ∧ i - (lData n : Int) < ((n - lData n : Nat) : Int) := by
      unfold hasBlock hasB at hb
      by_cases h0 : i < (lData n : Int)
      · rw [if_pos h0, decide_eq_false (by omega)] at hb; simp at hb
      · rw [if_neg h0] at hb
        have := (Bool.and_eq_true _ _).mp hb.symm
        have := of_decide_eq_true this.1
        omega
    obtain ⟨q, hq⟩ : ∃ q : Nat, i - (lData n : Int) = (q : Int) := ⟨(i - (lData n : Int)).toNat, by omega⟩
    have hqc : q < n - lData n := by omega
    have HT := Lib.hid (fun (W : World) (hb : Below wi.heap.size wi W) => aturn_any (kindB n) (h.free hb) hqc)
    have HR := Lib.hid (show R = turnR n L D (lMap n) q by rw [hRb, if_neg (by decide), hq, Int.toNat_natCast])
    have hw : IntKind.i64.wrap (i - (lData n : Int)) = (q : Int) := by rw [hq]; exact IntWalk.i64_in _ (by omega)
    clear h hlay hb hR hRb hin hq
    go_enter Try.func24, Try.ntmps24
    go_wp2_with fail
    refine HH.out.mono ?_
    rintro e w1 ⟨rfl, hb1⟩
    obtain ⟨d0, d1, d4, d5, d6, d7, d8⟩ := HC.out _ hb1
    have HB1 := Lib.hid hb1
    clear hb1
    go_wp2_with fail
    refine (HT.out _ HB1.out).mono ?_
    rintro e w2 ⟨rfl, hA2⟩
    have HA2 := Lib.hid hA2
    clear hA2
    go_wp2_with fail
    go_ret
    rw [HR.out]
    exact ⟨rfl, HA2.out⟩
set_option maxRecDepth 100000 in
set_option maxHeartbeats 2000000 in
theorem afreeInode_any (h : ARun w wi F p go gs pd ps n L D) (i : Int) (hi : -9223372036854775808 ≤ i ∧ i ≤ 9223372036854775807) :
    Calls Try.prog 32 #[.pointer (some ⟨ps, 0, none⟩), .int .i64 i] wi fun e w' => e = .returned (.int .i64 (freeInodeR n L D i).1) ∧ ARun w w' F p go gs pd ps n (freeInodeR n L D i).2 D := by
  have HH := Lib.hid (ahasInode_any h i hi)
  have H := Lib.hid h
  obtain ⟨b, hb⟩ : ∃ b, b = hasInode n L D i := ⟨_, rfl⟩
  rw [← hb] at HH
  obtain ⟨R, hR⟩ : ∃ R, R = freeInodeR n L D i := ⟨_, rfl⟩
  rw [← hR]
  have hRb : R = if b = false then (49, L) else turnR n L D (lNodes n) i.toNat := by rw [hR, hb]; rfl
  cases b with
  | false =>
    have HR := Lib.hid (show R = (49, L) by rw [hRb, if_pos rfl])
    clear h hb hR hRb
    go_enter Try.func32, Try.ntmps32
    go_wp2_with fail
    refine HH.out.mono ?_
    rintro e w1 ⟨rfl, hb1⟩
    have HA := Lib.hid (H.out.free hb1)
    clear hb1
    go_wp2_with fail
    go_ret
    rw [HR.out]
    exact ⟨rfl, HA.out⟩
  | true =>
    have hin : 0 ≤ i ∧ i < (lInodes n : Int) := by
      unfold hasInode hasB at hb
      have := (Bool.and_eq_true _ _).mp hb.symm
      have := of_decide_eq_true this.1
      split at this <;> omega
    obtain ⟨q, rfl⟩ : ∃ q : Nat, i = (q : Int) := ⟨i.toNat, by omega⟩
    have hqc : q < lInodes n := by omega
    have HT := Lib.hid (fun (W : World) (hb : Below wi.heap.size wi W) => aturn_any (kindI n) (h.free hb) hqc)
    have HR := Lib.hid (show R = turnR n L D (lNodes n) q by rw [hRb, if_neg (by decide), Int.toNat_natCast])
    clear h hb hR hRb hin
    go_enter Try.func32, Try.ntmps32
    go_wp2_with fail
    refine HH.out.mono ?_
    rintro e w1 ⟨rfl, hb1⟩
    have HB1 := Lib.hid hb1
    clear hb1
    go_wp2_with fail
    refine (HT.out _ HB1.out).mono ?_
    rintro e w2 ⟨rfl, hA2⟩
    have HA2 := Lib.hid hA2
    clear hA2
    go_wp2_with fail
    go_ret
    rw [HR.out]
    exact ⟨rfl, HA2.out⟩
end Go.Proofs.Ytmhgahkainmbkaa
namespace Go.Proofs.Ytmhgahkainmbkaa
open Go.RowKit
set_option linter.unusedVariables false
set_option linter.unusedSimpArgs false
variable {w : Ground} {wi wj : World} {p go gs pd ps n : Nat} {L L' : LogM} {F Fj : Nat → Prop} {D : DiskM}
theorem slice_bytes_mark (x : Value) (lo hi mx : Option Value) : Instr.slice 39 x lo hi mx = SliceS 39 x lo hi mx := rfl
theorem SliceS.mid {P : Program} {ty e : TypeId} (hu : P.underlying ty = some (.slice e)) (hs : (P.info? e).map (·.size) = some 1) {g n c i m : Nat} {z1 z2 : Int} (h1 : z1 = (i : Int)) (h2 : z2 = (m : Int)) (hk : i < m) (hn : m ≤ n) (hc : n ≤ c) (w : World) :
    (SliceS ty (.slice (some ⟨g, 0, none⟩) n c) (some (.int .i64 z1)) (some (.int .i64 z2)) none).run P w = .ok (.slice (some ⟨g, i, none⟩) (m - i) (c - i)) w := by
  subst h1 h2
  cases hq : P.info? e with
  | none => simp [hq] at hs
  | some inf =>
    have hi' : inf.size = 1 := by simpa [hq] using hs
    have hne : ¬ c = i := by omega
    have hle : m ≤ c := by omega
    have him : i ≤ m := by omega
    unfold SliceS
    simp [Instr.slice, Instr.sliceBounds, Instr.sliceBound, run_underlying hu, sizeOf, typeInfo, hq, hi', asIntOf, hne, hle, him, addr_of_add]
def zs32 : List Value := List.replicate 32 (Value.int .u8 0)
theorem zs32_is : (Builtin.zeroCells (Value.int IntKind.u8 0).cells 32).toList = zs32 := by
  have hf : (fun i : Nat => (#[Value.int .u8 0] : Array Value)[i % 1]!) = fun _ => Value.int .u8 0 := by funext i; rw [Nat.mod_one]; rfl
  show ((Array.range (32 * 1)).map fun i : Nat => (#[Value.int .u8 0] : Array Value)[i % 1]!).toList = _
  rw [hf, Array.toList_map, List.map_const', Array.length_toList, Array.size_range]
  rfl
theorem ClearS.bytes {w : World} {g o c : Nat} {cur : Array Value} (hB : Blk w g 5 cur) (hfit : o + 32 ≤ cur.size) :
    (ClearS #[39] 0 #[.slice (some ⟨g, o, none⟩) 32 c]).run Try.prog w = .ok (.tuple #[]) (w.setRow g (cur.toList.take o ++ zs32 ++ cur.toList.drop (o + 32)).toArray) := by
  have hst := run_storeCells_at Try.prog g o 5 zs32 0 cur w hB (by simpa [zs32] using hfit) (fun v hv => by rw [List.eq_of_mem_replicate hv]; rfl)
  have hzl : zs32.length = 32 := by simp [zs32]
  rw [Nat.add_zero, hzl] at hst
  cases hq : Try.prog.info? 5 with
  | none => have := byte_info; rw [hq] at this; cases this
  | some i =>
    have hb := byte_info
    rw [hq] at hb
    simp only [Option.map_some, Option.some.injEq, Prod.mk.injEq] at hb
    unfold ClearS
    simp [Builtin.clear_, run_underlying Try.underlying39, zeroValue, typeInfo, hq, hb.1, zs32_is, hst]
theorem wipe_length {b : List UInt8} {k : Nat} (h : b.length = 128) (hk : k < 4) : (wipe b k).length = 128 := by
  unfold wipe
  simp only [List.length_append, List.length_take, List.length_replicate, List.length_drop]
  omega
section
attribute [local go_sem ↓] slice_bytes_mark clear_mark
set_option maxRecDepth 100000 in
set_option maxHeartbeats 4000000 in
theorem ainode_any (h : ARun w wi F p go gs pd ps n L D) :
    Calls Try.prog 31 #[.pointer (some ⟨ps, 0, none⟩)] wi fun e w' => e = .returned (.tuple #[.int .i64 (inodeR n L D).1, .int .i64 (inodeR n L D).2.1]) ∧ ARun w w' F p go gs pd ps n (inodeR n L D).2.2 D := by
  have hle := aleast_any (kindI n) h
  have hlf := leastR_facts n L D (lNodes n) (lInodes n)
  obtain ⟨R, hR⟩ : ∃ R, R = inodeR n L D := ⟨_, rfl⟩
  rw [← hR]
  obtain ⟨r, hr⟩ : ∃ r, r = leastR n L D (lNodes n) (lInodes n) := ⟨_, rfl⟩
  rw [← hr] at hle hlf
  have hRb : R = inodeEnd n (lTable n) D r := by rw [hR, hr]; rfl
  obtain ⟨r1, E, L1⟩ := r
  simp only at hle hlf
  have hlay := lay_facts h.log.n64 h.log.most
  have hmost := h.log.most
  have HLE := Lib.hid hle
  have HRB := Lib.hid hRb
  have HLF := Lib.hid hlf
  have HLAY := Lib.hid (show ∀ q, q < lInodes n → lMap n ≤ lTable n + q / 4 ∧ lTable n + q / 4 < n ∧ lTable n ≤ n ∧ q < 128 by intro q hq; omega)
  clear h hle hlf hR hr hRb hlay
  go_enter Try.func31, Try.ntmps31
  go_wp2_with fail
  refine HLE.out.mono ?_
  rintro e w1 ⟨rfl, hA1⟩
  by_cases hE : E = 0
  · subst hE
    obtain ⟨q, rfl, hq⟩ := HLF.out rfl
    obtain ⟨hk1, hk2, hk3, hk4⟩ := HLAY.out q hq
    have hrd := fun (W : World) (hb : Below w1.heap.size w1 W) => (hA1.free hb).log.readB (k := lTable n + q / 4) (.inr hk1) hk2
    rw [show ((lTable n + q / 4 : Nat) : Int) = (lTable n : Int) + (q : Int) / 4 by omega] at hrd
    obtain ⟨b, hb⟩ : ∃ b, b = L1.val D (lTable n + q / 4) := ⟨_, rfl⟩
    rw [← hb] at hrd
    obtain ⟨x, hx⟩ : ∃ x, x = wipe b (q % 4) := ⟨_, rfl⟩
    obtain ⟨E2, hE2⟩ : ∃ E2, E2 = L1.stageE n ((lTable n : Int) + (q : Int) / 4) 128 := ⟨_, rfl⟩
    obtain ⟨L2, hL2⟩ : ∃ L2, L2 = L1.stage n ((lTable n : Int) + (q : Int) / 4) 128 x := ⟨_, rfl⟩
    have HR2 := Lib.hid (show R = if E2 ≠ 0 then (0, E2, L2) else ((q : Int), 0, L2) by
      rw [HRB.out, hE2, hL2, hx, hb]
      unfold inodeEnd
      rw [if_neg (by simp)]
      rfl)
    have hst := fun (W : World) (hA : ARun w W F p go gs pd ps n L1 D) (g cap : Nat) (hS : Slc W (g + 1) 1 (some ⟨g, 0, none⟩) 128 cap (x.map bv)) (hxl : x.length = 128) => hA.stage (k := lTable n + q / 4) (.inr hk1) hk2 (z := (lTable n : Int) + (q : Int) / 4) (by omega) hxl hS
    rw [show ((lTable n + q / 4 : Nat) : Int) = (lTable n : Int) + (q : Int) / 4 by omega, ← hE2, ← hL2] at hst
    have HRD := Lib.hid hrd
    have HST := Lib.hid hst
    have HX := Lib.hid (And.intro hx hb)
    have HC := Lib.hid (fun (W : World) (hb : Below w1.heap.size w1 W) => space_cells (hA1.free hb).space)
    have HA1 := Lib.hid hA1
    have hw : IntKind.i64.wrap ((lTable n : Int) + (q : Int) / 4) = (lTable n : Int) + (q : Int) / 4 := IntWalk.i64_in _ (by omega)
    have hq4 : IntKind.i64.wrap ((q : Int) / 4) = (q : Int) / 4 := IntWalk.i64_in _ (by omega)
    obtain ⟨c0, c1, c4, c5, c6, c7, c8⟩ := space_cells hA1.space
    have hbd : Below w1.heap.size w1 w1.drew := (Below.refl _ _).drew
    clear hrd hst hE2 hL2 hx hb hA1 hk1 hk2
    go_wp2_with fail
    go_region_held3 (fun W => W.cell? ⟨ps, 0, none⟩ = some (.pointer (some ⟨p, 0, none⟩)) ∧ W.cell? ⟨ps, 6, none⟩ = some (.int .i64 (lTable n : Int))) (first | exact ⟨(HC.out _ hbd).1, (HC.out _ hbd).2.2.2.2.1⟩ | exact ⟨(HC.out _ hbw2).1, (HC.out _ hbw2).2.2.2.2.1⟩) ((go_at_call 13; refine (HRD.out _ hbd).mono ?_; rintro e w2 ⟨g, cap, rfl, hby⟩; have hbw2 := hbd.trans hby.below))
    have HBY := Lib.hid hby
    have HB2 := Lib.hid hbw2
    have hcap := hby.capOk
    clear hby hbw2 hbd c0 c1 c4 c5 c6 c7 c8 hw
    have hsl := SliceS.mid (P := Try.prog) (ty := 39) Try.underlying39 byte_size1 (g := g) (n := 128) (c := cap) (i := 32 * (q % 4)) (m := 32 * (q % 4) + 32) (z1 := 32 * ((q : Int) % 4)) (z2 := 32 * ((q : Int) % 4) + 32) (by omega) (by omega) (by omega) (by omega) hcap.1 w2
    rw [show 32 * (q % 4) + 32 - 32 * (q % 4) = 32 by omega] at hsl
    obtain ⟨cur, k1, k2, k3⟩ := HBY.out.at_
    have hcl := ClearS.bytes (o := 32 * (q % 4)) (c := cap - 32 * (q % 4)) k1 (by omega)
    obtain ⟨w3, hw3⟩ : ∃ w3, w3 = w2.setRow g (cur.toList.take (32 * (q % 4)) ++ zs32 ++ cur.toList.drop (32 * (q % 4) + 32)).toArray := ⟨_, rfl⟩
    rw [← hw3] at hcl
    have hxl : x.length = 128 := by rw [HX.out.1]; exact wipe_length HBY.out.len (by omega)
    have hrow : (cur.toList.take (32 * (q % 4)) ++ zs32 ++ cur.toList.drop (32 * (q % 4) + 32)).take 128 = x.map bv := by
      have hcl128 : (cur.toList.take 128).length = 128 := by simp; omega
      have e1 : cur.toList.take (32 * (q % 4)) = (b.map bv).take (32 * (q % 4)) := by rw [← k3, List.take_take, Nat.min_eq_left (by omega)]
      have e2 : (cur.toList.drop (32 * (q % 4) + 32)).take (128 - (32 * (q % 4) + 32)) = (b.map bv).drop (32 * (q % 4) + 32) := by rw [← k3, List.drop_take]
      obtain ⟨P, hP⟩ : ∃ P, P = cur.toList.take (32 * (q % 4)) := ⟨_, rfl⟩
      have hPl : P.length = 32 * (q % 4) := by rw [hP, List.length_take]; simp; omega
      have hPz : (P ++ zs32).length = 32 * (q % 4) + 32 := by rw [List.length_append, hPl]; simp [zs32]
      rw [← hP, List.take_append, List.take_of_length_le (l := P ++ zs32) (by omega), hPz, e2, hP, e1, HX.out.1]
      unfold wipe
      rw [List.map_append, List.map_append, List.map_take, List.map_drop, show List.map bv (List.replicate 32 0) = zs32 by simp [zs32, bv]]
    have hby3 : Bytes w1.drew w3 g cap x := by
      refine ⟨by rw [hw3]; exact below_setRow HBY.out.below HBY.out.new _, HBY.out.new, hxl, hcap, _, by rw [hw3]; exact k1.row _, ?_, ?_⟩
      · simp [zs32]; omega
      · exact hrow
    have hb3 : Below w1.heap.size w1 w3 := (Below.refl _ _).drew.trans hby3.below
    have hA3 := HA1.out.free hb3
    obtain ⟨c0, c1, c4, c5, c6, c7, c8⟩ := space_cells hA3.space
    have hst3 := HST.out _ hA3.drew g cap (hby3.free (Below.refl _ w3).drew).slc hxl
    have HST3 := Lib.hid hst3
    have hw : IntKind.i64.wrap ((lTable n : Int) + (q : Int) / 4) = (lTable n : Int) + (q : Int) / 4 := IntWalk.i64_in _ (by omega)
    have hw1 : IntKind.i64.wrap (32 * ((q : Int) % 4)) = 32 * ((q : Int) % 4) := IntWalk.i64_in _ (by omega)
    have hw2' : IntKind.i64.wrap (32 * ((q : Int) % 4) + 32) = 32 * ((q : Int) % 4) + 32 := IntWalk.i64_in _ (by omega)
    clear k1 k2 k3 hw3 hxl hrow hby3 hb3 hA3 hst3
    go_wp2_with fail
    refine region_tail 13 (by kernel_rfl) (by kernel_rfl) ?_
    simp only [List.take_succ_cons, List.take_zero, List.drop_succ_cons, List.drop_zero]
    repeat still_step
    refine wpStill_nil ?_
    go_wp2_with fail
    refine HST3.out.mono ?_
    rintro e w4 ⟨rfl, hA4⟩
    have HA4 := Lib.hid hA4
    clear hA4
    by_cases hE0 : E2 = 0
    · subst hE0
      have HR3 := Lib.hid (show R = ((q : Int), 0, L2) by rw [HR2.out, if_neg (by simp)])
      go_wp2_with fail
      go_ret2
      rw [HR3.out]
      exact ⟨rfl, HA4.out⟩
    · have HR3 := Lib.hid (show R = (0, E2, L2) by rw [HR2.out, if_pos hE0])
      go_wp2_with fail
      go_ret2
      rw [HR3.out]
      exact ⟨rfl, HA4.out⟩
  · have HR3 := Lib.hid (show R = (0, E, L1) by rw [HRB.out]; unfold inodeEnd; rw [if_pos hE])
    have HA1 := Lib.hid hA1
    clear hA1
    go_wp2_with fail
    go_ret2
    rw [HR3.out]
    exact ⟨rfl, HA1.out⟩
end
end Go.Proofs.Ytmhgahkainmbkaa
