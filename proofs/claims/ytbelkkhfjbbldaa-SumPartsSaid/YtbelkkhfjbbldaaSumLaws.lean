/- The walks of the laws on sums. -/
import Derived.Test.YtbelkkhfjbbldaaSumShown
import Derived.SizedLaws
import Derived.Maps.AppendAt
namespace Go.Proofs.Ytbelkkhfjbbldaa
set_option linter.unusedVariables false
set_option linter.unusedSimpArgs false
open Go.RowKit Go.ChangeShapes Go.WideShapes
open Go.ChangeMaps (open_string)

theorem reach_eq : reachBytes = 140737488351232 := rfl

theorem u64_of_wf {x : Int} (h : (Lit.int .u64 x).wf = true) : ∃ s : UInt64, x = (s.toNat : Int) := by
  have h1 : 0 ≤ x ∧ x ≤ 18446744073709551615 := by simpa [Lit.wf, IntKind.min, IntKind.max, IntKind.signed, IntKind.bits] using h
  have hx : x.toNat < 2 ^ 64 := by omega
  refine ⟨UInt64.ofNat x.toNat, ?_⟩
  rw [UInt64.toNat_ofNat_of_lt' hx]
  omega

theorem parsed_text (s : UInt64) : parsed (hexl 16 s.toNat) = some s.toNat := by
  unfold parsed
  rw [hexl_length, if_pos rfl, hexVal_hexl, Nat.zero_mul, Nat.zero_add, Nat.mod_eq_of_lt (by have := u64_lt s; omega)]
theorem parsed_some {l : List UInt8} {v : Nat} (h : parsed l = some v) : ∃ u : UInt64, v = u.toNat ∧ hexl 16 u.toNat = l := by
  unfold parsed at h
  split at h
  · rename_i h16
    obtain ⟨h1, h2, _⟩ := hexVal_lt _ _ _ h
    rw [h16] at h1 h2
    have hv : v < 2 ^ 64 := by omega
    refine ⟨UInt64.ofNat v, ?_, ?_⟩
    · rw [UInt64.toNat_ofNat_of_lt' hv]
    · rw [UInt64.toNat_ofNat_of_lt' hv]; exact h2
  · cases h

set_option maxRecDepth 100000 in
set_option maxHeartbeats 400000 in
theorem SumTexts_walk {H : Type} {enc : TypeId × Value → H} (W : World) (base : Nat) (v0 v1 : Value) (d0 d1 : DataW H) (p0 p1 : List MemPlace)
    (o0 : Value.okWide Try.prog W .any base 22 v0) (o1 : Value.okWide Try.prog W .any base 9 v1)
    (k0 : DataW.Trod enc Try.prog W 0 (fun _ => true) true 22 v0 d0 p0) (k1 : DataW.Trod enc Try.prog W 0 (fun _ => true) true 9 v1 d1 p1)
    (_hsz : (DataW.weightsEach Try.prog [22, 9] [d0, d1]).all (· ≤ reachBytes) = true) :
    Calls Try.prog 4 #[v0, v1] W fun e w' => e = .returned (.bool true) ∧ Below W.heap.size W w' := by
  obtain ⟨x, rfl, rfl, rfl, wx⟩ := open_int Try.underlying22 o0 k0
  obtain ⟨s, rfl⟩ := u64_of_wf wx
  obtain ⟨t, rfl, rfl, rfl, ht⟩ := open_string Try.underlying9 o1 k1
  clear k0 k1 o0 o1 _hsz wx
  go_enter Try.func4, Try.ntmps4
  go_wp2_with fail
  refine (shown_any _).mono ?_
  rintro e w1 ⟨rfl, hb1⟩
  go_wp2_with fail
  refine (parse_any t _ ht).mono ?_
  rintro e w2 ⟨rfl, hb2⟩
  have fin : ∀ w', Below w1.heap.size w1 w' → Below W.heap.size W w' := fun w' h => hb1.trans (h.mono hb1.size)
  have HF := Lib.hid fin
  clear fin
  cases hp : parsed t.data.toList with
  | none =>
    have HP := Lib.hid hp
    clear hp
    rw [show optRes none = .tuple #[.int .u64 0, .bool false] from rfl]
    go_wp2_with fail
    refine (refParse_any t _ ht).mono ?_
    rintro e w3 ⟨rfl, hb3⟩
    rw [HP.out, show optRes none = .tuple #[.int .u64 0, .bool false] from rfl]
    go_wp2_with fail
    refine (text_any s _).mono ?_
    rintro e w4 ⟨rfl, hb4⟩
    go_wp2_with fail
    refine (parse_any _ _ ?_).mono ?_
    · simp [ByteArray.size, hexl_length, maxLen]
    rintro e w5 ⟨rfl, hb5⟩
    rw [parsed_text, show optRes (some s.toNat) = .tuple #[.int .u64 (s.toNat : Int), .bool true] from rfl]
    go_wp2_with fail
    refine (text_any s _).mono ?_
    rintro e w6 ⟨rfl, hb6⟩
    go_wp2_with fail
    refine (refText_any s _).mono ?_
    rintro e w7 ⟨rfl, rfl⟩
    go_wp2_with fail
    go_ret
    have hs2 := hb2.size
    have hs3 := hb3.size
    have hs4 := hb4.size
    have hs5 := hb5.size
    exact ⟨by simp, HF.out _ ((((hb2.trans (hb3.mono (by omega))).trans (hb4.mono (by omega))).trans (hb5.mono (by omega))).trans (hb6.mono (by omega)))⟩
  | some v =>
    obtain ⟨u, rfl, hu⟩ := parsed_some hp
    have HP := Lib.hid hp
    have HU := Lib.hid hu
    clear hp hu
    rw [show optRes (some u.toNat) = .tuple #[.int .u64 (u.toNat : Int), .bool true] from rfl]
    go_wp2_with fail
    refine (refParse_any t _ ht).mono ?_
    rintro e w3 ⟨rfl, hb3⟩
    rw [HP.out, show optRes (some u.toNat) = .tuple #[.int .u64 (u.toNat : Int), .bool true] from rfl]
    go_wp2_with fail
    refine (text_any s _).mono ?_
    rintro e w4 ⟨rfl, hb4⟩
    go_wp2_with fail
    refine (parse_any _ _ ?_).mono ?_
    · simp [ByteArray.size, hexl_length, maxLen]
    rintro e w5 ⟨rfl, hb5⟩
    rw [parsed_text, show optRes (some s.toNat) = .tuple #[.int .u64 (s.toNat : Int), .bool true] from rfl]
    go_wp2_with fail
    refine (text_any s _).mono ?_
    rintro e w6 ⟨rfl, hb6⟩
    go_wp2_with fail
    refine (refText_any s _).mono ?_
    rintro e w7 ⟨rfl, rfl⟩
    go_wp2_with fail
    refine (text_any u _).mono ?_
    rintro e w7 ⟨rfl, hb7⟩
    rw [HU.out]
    have ht2 : t.toList = t.data.toList := ByteArray.toList_eq t
    go_wp2_with fail
    go_ret
    have hs2 := hb2.size
    have hs3 := hb3.size
    have hs4 := hb4.size
    have hs5 := hb5.size
    have hs6 := hb6.size
    exact ⟨by simp, HF.out _ (((((hb2.trans (hb3.mono (by omega))).trans (hb4.mono (by omega))).trans (hb5.mono (by omega))).trans (hb6.mono (by omega))).trans (hb7.mono (by omega)))⟩

theorem byte_wf {x : Int} (h : (Lit.int .u8 x).wf = true) : 0 ≤ x ∧ x < 256 := by
  have h1 : 0 ≤ x ∧ x ≤ 255 := by simpa [Lit.wf, IntKind.min, IntKind.max, IntKind.signed, IntKind.bits] using h
  omega

/-- An argument of type []byte, opened. -/
theorem open_bytes {H : Type} {enc : TypeId × Value → H} {W : World} {base : Nat} {v : Value} {d : DataW H} {p : List MemPlace}
    (o : Value.okWide Try.prog W .any base 23 v) (k : DataW.Trod enc Try.prog W 0 (fun _ => true) true 23 v d p) :
    ∃ A n c, ∃ l : List UInt8, v = .slice A n c ∧ Slc W W.heap.size 1 A n c (l.map bv) ∧ (n = 0 ∨ ∃ elems spare, d = .slice elems spare ∧ n ≤ elems.length + spare.length) := by
  obtain ⟨a0, len, cap, rfl⟩ := okWide_slice Try.underlying23 o
  obtain ⟨fuel, hf⟩ := k
  rcases open_ints Try.underlying23 Try.underlying5 (by kernel_rfl) hf with ⟨hcs, _⟩ | ⟨x, l, c, zs, hcs, _, hl, hm, hz, hx, hcell, hwz⟩
  · simp [Value.cells] at hcs
    obtain ⟨rfl, rfl, rfl⟩ := hcs
    exact ⟨none, 0, 0, [], rfl, ⟨rfl, Nat.le_refl _, Nat.zero_le _, fun h => absurd h (by decide)⟩, .inl rfl⟩
  · simp [Value.cells] at hcs
    obtain ⟨rfl, rfl, rfl⟩ := hcs
    simp only [if_true] at hz
    have hcast : ∀ i (hi : i < zs.length), ((UInt8.ofNat zs[i].toNat).toNat : Int) = zs[i] := fun i hi => by
      have := byte_wf (hwz zs[i] (List.getElem_mem hi))
      rw [UInt8.toNat_ofNat_of_lt' (show zs[i].toNat < 2 ^ 8 by omega)]
      omega
    refine ⟨some x, len, cap, (zs.take len).map fun z => UInt8.ofNat z.toNat, rfl, ⟨by simp; omega, hl, hm, fun h0 => ?_⟩, ?_⟩
    · have h1 := hcell 0 (by omega)
      have hs : x.spot = none := by simpa [Addr.add] using World.cell?_spot h1
      have hblk : x.block < W.heap.size := by have := World.block_lt_of_cell? _ _ h1; simpa [block_add] using this
      obtain ⟨b, off, sp⟩ := x
      simp only at hs hblk
      subst hs
      refine ⟨b, off, rfl, hblk, fun j u hu => ?_⟩
      have hj : j < len := by
        rcases Nat.lt_or_ge j len with h | h
        · exact h
        · rw [List.getElem?_eq_none (by simp; omega)] at hu; cases hu
      have hjz : j < zs.length := by omega
      have h2 := hcell j hjz
      rw [addr_of_add] at h2
      rw [h2]
      simp only [List.map_map, List.getElem?_map, List.getElem?_take, hj, if_true, List.getElem?_eq_getElem hjz, Option.map_some, Option.some.injEq] at hu
      subst hu
      simp only [Function.comp, bv, hcast j hjz, List.getD, List.getElem?_eq_getElem hjz, Option.getD_some]
    · refine .inr ?_
      have hd := congrArg Prod.fst hx
      simp only at hd
      refine ⟨_, _, hd, ?_⟩
      simp [lits]
      omega

theorem bytes_size : Try.prog.bytesOf 5 = 1 := by kernel_rfl

theorem cons_nil_toArray (c : UInt8) (l : List UInt8) : (ByteArray.mk (l ++ [c]).toArray).toList = l ++ [c] := ByteArray.toList_mk _

set_option maxRecDepth 100000 in
set_option maxHeartbeats 400000 in
theorem SumTells_walk {H : Type} {enc : TypeId × Value → H} (W : World) (base : Nat) (v0 v1 : Value) (d0 d1 : DataW H) (p0 p1 : List MemPlace)
    (o0 : Value.okWide Try.prog W .any base 22 v0) (o1 : Value.okWide Try.prog W .any base 23 v1)
    (k0 : DataW.Trod enc Try.prog W 0 (fun _ => true) true 22 v0 d0 p0) (k1 : DataW.Trod enc Try.prog W 0 (fun _ => true) true 23 v1 d1 p1)
    (hsz : (DataW.weightsEach Try.prog [22, 23] [d0, d1]).all (· ≤ reachBytes) = true) :
    Calls Try.prog 3 #[v0, v1] W fun e w' => e = .returned (.bool true) ∧ Below W.heap.size W w' := by
  obtain ⟨x, rfl, rfl, rfl, wx⟩ := open_int Try.underlying22 o0 k0
  obtain ⟨s, rfl⟩ := u64_of_wf wx
  obtain ⟨A, n, c, l, rfl, hS, hd⟩ := open_bytes o1 k1
  have hn : n ≤ 140737488351232 := by
    rcases hd with h | ⟨elems, spare, rfl, hle⟩
    · omega
    · have := sized_slice hsz (j := 1) (t := 23) (e := 5) rfl rfl Try.underlying23
      rw [bytes_size, reach_eq] at this
      omega
  have hlen : l.length = n := by have := hS.len; simpa using this
  have HL := Lib.hid hlen
  have hcm : c ≤ 9223372036854775807 := by have := hS.cmax; unfold maxLen at this; omega
  have hnc := hS.le
  clear k0 k1 o0 o1 hsz wx hd hlen
  go_enter Try.func3, Try.ntmps3
  go_wp2_with fail
  refine (shown_any _).mono ?_
  rintro e w1 ⟨rfl, hb1⟩
  have hs1 := hb1.size
  obtain ⟨A2, c2, w2, hr2, hown2, hg2, hat2⟩ := append_bytes (w1.alloc (.cells #[] 5)) w1.heap.size (.slice (some ⟨w1.heap.size, 0, none⟩) 0 0) 0 [] (World.ownsRow_made w1 #[] 0 (Nat.le_refl _) (by decide) rfl)
    W.heap.size A n c l ((hS.below hb1).below ((Below.refl _ _).alloc hs1 _)) (by omega) (by simp)
  have hb2 : Below w1.heap.size w1 w2 := ((Below.refl _ w1).alloc (Nat.le_refl _) _).grown hg2 (by simp) (by simp [Value.ownBlock])
  have hs2 := hb2.size
  obtain ⟨A3, c3, w3, hr3, hown3, hg3, hat3⟩ := append_bytes (w2.alloc (.cells #[bv 7] 5)) w1.heap.size _ (0 + n) _ (hown2.alloc _)
    (w2.heap.size + 1) (some ⟨w2.heap.size, 0, none⟩) 1 1 [7] (slc_new w2 5 (0, 0) #[bv 7] (sz := 1) rfl (by omega) (by decide)) (by omega) (by simp; omega)
  have hb3 : Below w1.heap.size w1 w3 := (hb2.alloc hs2 _).grown hg3 (by simp; omega) (fun k hk => (hown2.lt k hk).1)
  have hs3 := hb3.size
  have hS3 := own_slc_of hown3
  have hS3' : Slc w3 w3.heap.size 1 A3 n c3 (l.map bv) := by
    have := hS3.upto (m := n) (by omega)
    rwa [show (List.map bv ([] ++ l ++ [7])).take n = l.map bv from by rw [← List.map_take, List.nil_append, List.take_left' HL.out]] at this
  have hS3k : Slc w3 W.heap.size 1 A n c (l.map bv) := (hS.below hb1).below (hb3.mono hs1)
  have hc1 := convert_bytes Try.underlying23 Try.underlying5 hS3 9 Try.underlying9
  have hc2 := convert_bytes Try.underlying23 Try.underlying5 hS3k 9 Try.underlying9
  have hc3le := hS3.le
  have hc3m : c3 ≤ 9223372036854775807 := by have := hS3.cmax; unfold maxLen at this; omega
  simp only [Nat.zero_add, List.nil_append, bv] at hr2 hr3 hc1 hc3le
  have hbW : Below W.heap.size W w3 := hb1.trans (hb3.mono hs1)
  have hll : l.length ≤ 140737488351232 := by have := HL.out; omega
  clear hb2 hb3 hg2 hg3 hown2 hown3 hat2 hat3 hS hS3
  go_wp2_with (first | (at_builtin; refine wpList_append_run rfl _ _ _ rfl rfl rfl hr2 ?_; clear hr2) | (at_builtin; refine wpList_append_run rfl _ _ _ rfl rfl rfl hr3 ?_; clear hr3) | fail)
  refine (sum_any A3 n c3 _ l _ hS3').mono ?_
  rintro e w4 ⟨rfl, rfl⟩
  go_wp2_with fail
  refine (update_any s A3 n c3 _ l _ hS3').mono ?_
  rintro e w4 ⟨rfl, rfl⟩
  go_wp2_with fail
  refine (refSum_any A n c _ l _ hS3k).mono ?_
  rintro e w4 ⟨rfl, rfl⟩
  go_wp2_with fail
  refine (refUpdate_any s A n c _ l _ hS3k).mono ?_
  rintro e w4 ⟨rfl, rfl⟩
  go_wp2_with fail
  go_ret
  refine ⟨?_, hbW⟩
  have e : (ByteArray.mk l.toArray ++ ByteArray.mk #[7]).toList = l ++ [7] := by
    rw [show (ByteArray.mk #[7]) = ByteArray.mk [7].toArray from rfl, ByteArray.mk_append_mk, ByteArray.toList_mk]
  show Ending.returned (.bool (l ++ [7] == (ByteArray.mk l.toArray ++ ByteArray.mk #[7]).toList)) = _
  rw [e]
  simp

/-- An argument of type []int, opened. -/
theorem open_nums {H : Type} {enc : TypeId × Value → H} {W : World} {base : Nat} {v : Value} {d : DataW H} {p : List MemPlace}
    (o : Value.okWide Try.prog W .any base 32 v) (k : DataW.Trod enc Try.prog W 0 (fun _ => true) true 32 v d p) :
    ∃ A n c, ∃ l : List Int, v = .slice A n c ∧ Slc W W.heap.size 1 A n c (l.map (Value.int .i64)) ∧ (∀ z ∈ l, -9223372036854775808 ≤ z ∧ z ≤ 9223372036854775807) ∧ (n = 0 ∨ ∃ elems spare, d = .slice elems spare ∧ n ≤ elems.length + spare.length) := by
  obtain ⟨a0, len, cap, rfl⟩ := okWide_slice Try.underlying32 o
  obtain ⟨fuel, hf⟩ := k
  rcases open_ints Try.underlying32 Try.underlying3 (by kernel_rfl) hf with ⟨hcs, _⟩ | ⟨x, l, c, zs, hcs, _, hl, hm, hz, hx, hcell, hwz⟩
  · simp [Value.cells] at hcs
    obtain ⟨rfl, rfl, rfl⟩ := hcs
    exact ⟨none, 0, 0, [], rfl, ⟨rfl, Nat.le_refl _, Nat.zero_le _, fun h => absurd h (by decide)⟩, (fun _ h => by cases h), .inl rfl⟩
  · simp [Value.cells] at hcs
    obtain ⟨rfl, rfl, rfl⟩ := hcs
    simp only [if_true] at hz
    refine ⟨some x, len, cap, zs.take len, rfl, ⟨by simp; omega, hl, hm, fun h0 => ?_⟩, fun z hz' => ?_, ?_⟩
    · have h1 := hcell 0 (by omega)
      have hs : x.spot = none := by simpa [Addr.add] using World.cell?_spot h1
      have hblk : x.block < W.heap.size := by have := World.block_lt_of_cell? _ _ h1; simpa [block_add] using this
      obtain ⟨b, off, sp⟩ := x
      simp only at hs hblk
      subst hs
      refine ⟨b, off, rfl, hblk, fun j u hu => ?_⟩
      have hj : j < len := by
        rcases Nat.lt_or_ge j len with h | h
        · exact h
        · rw [List.getElem?_eq_none (by simp; omega)] at hu; cases hu
      have hjz : j < zs.length := by omega
      have h2 := hcell j hjz
      rw [addr_of_add] at h2
      rw [h2]
      simp only [List.getElem?_map, List.getElem?_take, hj, if_true, List.getElem?_eq_getElem hjz, Option.map_some, Option.some.injEq] at hu
      subst hu
      simp only [List.getD, List.getElem?_eq_getElem hjz, Option.getD_some]
    · have h := hwz z (List.mem_of_mem_take hz')
      simpa [Lit.wf, IntKind.min, IntKind.max, IntKind.signed, IntKind.bits] using h
    · refine .inr ?_
      have hd := congrArg Prod.fst hx
      simp only at hd
      refine ⟨_, _, hd, ?_⟩
      simp [lits]
      omega

/-- A cut from its k-th on. -/
theorem Slc.from_ {w : World} {B : Nat} {A : Option Addr} {n c : Nat} {xs : List Value} (h : Slc w B 1 A n c xs) {k : Nat} (hk : k ≤ n) :
    ∀ A', (A' = if c = k then A else A.map (·.add k)) → Slc w B 1 A' (n - k) (c - k) (xs.drop k) := by
  intro A' hA'
  have hle := h.le
  have hcm := h.cmax
  refine ⟨by have := h.len; simp; omega, by omega, by omega, fun hp => ?_⟩
  obtain ⟨b, off, rfl, hb, hc⟩ := h.at_ (by omega)
  rw [if_neg (by omega)] at hA'
  refine ⟨b, off + k, by rw [hA']; simp [addr_of_add], hb, fun j u hu => ?_⟩
  rw [Nat.add_assoc]
  exact hc _ u (by rw [← hu, List.getElem?_drop])

theorem and63 (z : Int) : ∃ m : Nat, m < 64 ∧ bits BinOp.and IntKind.i64 z 63 = (m : Int) := by
  refine ⟨(BitVec.ofInt 64 z &&& BitVec.ofInt 64 63).toNat, ?_, ?_⟩
  · have : (BitVec.ofInt 64 z &&& BitVec.ofInt 64 63).toNat ≤ (BitVec.ofInt 64 63).toNat := by
      rw [BitVec.toNat_and]; exact Nat.and_le_right
    have e : (BitVec.ofInt 64 63).toNat = 63 := by decide
    omega
  · show IntKind.i64.wrap ((BitVec.ofInt 64 z &&& BitVec.ofInt 64 63).toNat : Int) = _
    have : (BitVec.ofInt 64 z &&& BitVec.ofInt 64 63).toNat ≤ (BitVec.ofInt 64 63).toNat := by
      rw [BitVec.toNat_and]; exact Nat.and_le_right
    have e : (BitVec.ofInt 64 63).toNat = 63 := by decide
    rw [IntKind.wrap_i64]
    generalize (BitVec.ofInt 64 z &&& BitVec.ofInt 64 63).toNat = m at *
    omega

set_option maxRecDepth 100000 in
set_option maxHeartbeats 400000 in
theorem SumParts_walk {H : Type} {enc : TypeId × Value → H} (W : World) (base : Nat) (v0 v1 : Value) (d0 d1 : DataW H) (p0 p1 : List MemPlace)
    (o0 : Value.okWide Try.prog W .any base 23 v0) (o1 : Value.okWide Try.prog W .any base 32 v1)
    (k0 : DataW.Trod enc Try.prog W 0 (fun _ => true) true 23 v0 d0 p0) (k1 : DataW.Trod enc Try.prog W 0 (fun _ => true) true 32 v1 d1 p1)
    (_hsz : (DataW.weightsEach Try.prog [23, 32] [d0, d1]).all (· ≤ reachBytes) = true) :
    Calls Try.prog 5 #[v0, v1] W fun e w' => e = .returned (.bool true) ∧ Below W.heap.size W w' := by
  obtain ⟨A, n, c, l, rfl, hS, _⟩ := open_bytes o0 k0
  obtain ⟨C, m, cc, cs, rfl, hC, hcz, _⟩ := open_nums o1 k1
  have hlen : l.length = n := by have := hS.len; simpa using this
  have hclen : cs.length = m := by have := hC.len; simpa using this
  have HL := Lib.hid hlen
  have HCL := Lib.hid hclen
  have hcm : c ≤ 9223372036854775807 := by have := hS.cmax; unfold maxLen at this; omega
  have hnc := hS.le
  have hccm : m ≤ 9223372036854775807 := by have := hC.cmax; have := hC.le; unfold maxLen at *; omega
  clear k0 k1 o0 o1 _hsz hlen hclen
  go_enter Try.func5, Try.ntmps5
  go_wp2_with fail
  refine (shown_any _).mono ?_
  rintro e w1 ⟨rfl, hb1⟩
  go_wp2_with fail
  refine (sum_any none 0 0 0 [] _ (slc_nil _ _ _ _ (Nat.zero_le _))).mono ?_
  rintro e w2 ⟨rfl, rfl⟩
  have hS1 := hS.below hb1
  have hC1 := hC.below hb1
  clear hS hC
  go_wp2_with fail
  go_loop [6, 7, 8] (fun t x i => ∃ (k r y : Nat) (R : Option Addr) (rc : Nat), k ≤ m ∧ r + y ≤ n ∧ n ≤ r + y ∧ i = .int .i64 (k : Int) ∧ t = .int .u64 ((updAll begin64 (l.take r)).toNat : Int) ∧ x = .slice R y rc ∧ Slc w1 W.heap.size 1 R y rc ((l.drop r).map bv)) (fun _ _ i => m - (intOf i).toNat)
  case atStart => exact ⟨0, 0, n, A, c, by omega, by omega, by omega, rfl, rfl, rfl, hS1⟩
  case round =>
    obtain ⟨k, r, y, R, rc, hk, hr, hr2, rfl, rfl, rfl, hR⟩ := hrel
    have hrcm : rc ≤ 9223372036854775807 := by have := hR.cmax; unfold maxLen at this; omega
    have hrle := hR.le
    have hym : y ≤ 9223372036854775807 := by omega
    by_cases hlt : k < m ∧ 0 < y
    · obtain ⟨hlt, hrn⟩ := hlt
      obtain ⟨b, off, rfl, hb, hcell⟩ := hC1.at_ (by omega)
      have hkc : k < cs.length := by have := HCL.out; omega
      have hc := hcell k (.int .i64 cs[k]) (by simp [List.getElem?_eq_getElem hkc])
      obtain ⟨q, hq, hand⟩ := and63 cs[k]
      generalize cs[k] = z at *
      clear hcell hkc
      have step : ∀ u : Nat, u ≤ y → u = (if q ≤ y then q else y) → True := fun _ _ _ => trivial
      have hcut : ∀ u : Nat, u ≤ y → Slc w1 W.heap.size 1 R u rc (((l.drop r).take u).map bv) := fun u hu => by have := hR.upto hu; rwa [← List.map_take] at this
      have hnew : ∀ u : Nat, u ≤ y → updAll (updAll begin64 (l.take r)) ((l.drop r).take u) = updAll begin64 (l.take (r + u)) := fun u hu => by rw [← updAll_append, ← List.take_add]
      have hrest : ∀ u : Nat, u ≤ y → ∀ A', (A' = if rc = u then R else R.map (·.add u)) → Slc w1 W.heap.size 1 A' (y - u) (rc - u) ((l.drop (r + u)).map bv) := fun u hu A' hA' => by
        have := hR.from_ hu A' hA'
        rwa [← List.map_drop, List.drop_drop] at this
      have HCUT := Lib.hid hcut
      have HNEW := Lib.hid hnew
      have HREST := Lib.hid hrest
      clear step hcut hnew hrest
      by_cases hqy : q ≤ y
      · have hqi : ¬ (y : Int) < (q : Int) := by omega
        by_cases hrc : rc = q
        · subst hrc
          obtain rfl : y = rc := by omega
          go_wp2_with fail
          refine (update_any _ R y y _ _ _ (HCUT.out y (Nat.le_refl _))).mono ?_
          rintro e w4 ⟨rfl, rfl⟩
          rw [HNEW.out y (Nat.le_refl _)]
          go_wp2_with fail
          exact ⟨⟨k + 1, r + y, 0, R, 0, by omega, by omega, by omega, by go_num, rfl, by simp, by have := HREST.out y (Nat.le_refl _) R (by simp); simpa using this⟩, by simp [intOf]; omega⟩
        · go_wp2_with fail
          refine (update_any _ R q rc _ _ _ (HCUT.out q hqy)).mono ?_
          rintro e w4 ⟨rfl, rfl⟩
          rw [HNEW.out q hqy]
          go_wp2_with fail
          exact ⟨⟨k + 1, r + q, y - q, _, rc - q, by omega, by omega, by omega, by go_num, rfl, rfl, HREST.out q hqy _ (by simp [hrc])⟩, by simp [intOf]; omega⟩
      · have hqi : (y : Int) < (q : Int) := by omega
        by_cases hrc : rc = y
        · subst hrc
          go_wp2_with fail
          refine (update_any _ R rc rc _ _ _ (HCUT.out rc (Nat.le_refl _))).mono ?_
          rintro e w4 ⟨rfl, rfl⟩
          rw [HNEW.out rc (Nat.le_refl _)]
          go_wp2_with fail
          exact ⟨⟨k + 1, r + rc, 0, R, 0, by omega, by omega, by omega, by go_num, rfl, by simp, by have := HREST.out rc (Nat.le_refl _) R (by simp); simpa using this⟩, by simp [intOf]; omega⟩
        · go_wp2_with fail
          refine (update_any _ R y rc _ _ _ (HCUT.out y (Nat.le_refl _))).mono ?_
          rintro e w4 ⟨rfl, rfl⟩
          rw [HNEW.out y (Nat.le_refl _)]
          go_wp2_with fail
          exact ⟨⟨k + 1, r + y, 0, R.map (·.add y), rc - y, by omega, by omega, by omega, by go_num, rfl, rfl, by have := HREST.out y (Nat.le_refl _) (R.map (·.add y)) (by simp [hrc]); simpa using this⟩, by simp [intOf]; omega⟩
    · have hF : updAll (updAll begin64 (l.take r)) (l.drop r) = updAll begin64 l := by rw [← updAll_append, List.take_append_drop]
      have HF := Lib.hid hF
      clear hF
      have h2 : m ≤ k ∨ (k < m ∧ y = 0) := by omega
      clear hlt
      rcases h2 with h2 | ⟨h2, rfl⟩
      · go_wp2_with fail
        refine (update_any _ R y rc _ _ _ hR).mono ?_
        rintro e w4 ⟨rfl, rfl⟩
        rw [HF.out]
        go_wp2_with fail
        refine (sum_any A n c _ l _ hS1).mono ?_
        rintro e w4 ⟨rfl, rfl⟩
        go_wp2_with fail
        go_ret
        exact ⟨by simp, hb1⟩
      · go_wp2_with fail
        refine (update_any _ R 0 rc _ _ _ hR).mono ?_
        rintro e w4 ⟨rfl, rfl⟩
        rw [HF.out]
        go_wp2_with fail
        refine (sum_any A n c _ l _ hS1).mono ?_
        rintro e w4 ⟨rfl, rfl⟩
        go_wp2_with fail
        go_ret
        exact ⟨by simp, hb1⟩

/-- A cell of a slice of the call's own is written. -/
theorem Slc.set_ {w : World} {B sz : Nat} {g n c : Nat} {xs : List Value} (h : Slc w B sz (some ⟨g, 0, none⟩) n c xs) {i : Nat} {v u : Value} (hi : w.cell? ⟨g, i, none⟩ = some u) (hin : i < xs.length) :
    Slc (w.setCell ⟨g, i, none⟩ v) B sz (some ⟨g, 0, none⟩) n c (xs.set i v) := by
  refine ⟨by rw [List.length_set]; exact h.len, h.le, h.cmax, fun hp => ?_⟩
  obtain ⟨b, off, e, hb, hc⟩ := h.at_ hp
  injection e with e
  injection e with e1 e2 _
  subst e1 e2
  refine ⟨g, 0, rfl, hb, fun j x hx => ?_⟩
  rw [Nat.zero_add]
  by_cases hj : i = j
  · subst hj
    rw [List.getElem?_set_self hin] at hx
    rw [← hx]
    exact World.cell?_setCell_same _ _ _ hi
  · rw [List.getElem?_set_ne hj] at hx
    rw [World.cell?_setCell_other _ _ _ _ (by intro e; injection e with _ e2 _; omega)]
    have := hc j x hx
    rwa [Nat.zero_add] at this

set_option maxRecDepth 100000 in
set_option maxHeartbeats 4000000 in
theorem SumOne_walk {H : Type} {enc : TypeId × Value → H} (W : World) (base : Nat) (v0 v1 v2 : Value) (d0 d1 d2 : DataW H) (p0 p1 p2 : List MemPlace)
    (o0 : Value.okWide Try.prog W .any base 23 v0) (o1 : Value.okWide Try.prog W .any base 3 v1) (o2 : Value.okWide Try.prog W .any base 5 v2)
    (k0 : DataW.Trod enc Try.prog W 0 (fun _ => true) true 23 v0 d0 p0) (k1 : DataW.Trod enc Try.prog W 0 (fun _ => true) true 3 v1 d1 p1) (k2 : DataW.Trod enc Try.prog W 0 (fun _ => true) true 5 v2 d2 p2)
    (hsz : (DataW.weightsEach Try.prog [23, 3, 5] [d0, d1, d2]).all (· ≤ reachBytes) = true) :
    Calls Try.prog 6 #[v0, v1, v2] W fun e w' => e = .returned (.bool true) ∧ Below W.heap.size W w' := by
  obtain ⟨A, n, c, l, rfl, hS, hd⟩ := open_bytes o0 k0
  obtain ⟨x, rfl, rfl, rfl, wx⟩ := open_int Try.underlying3 o1 k1
  obtain ⟨y, rfl, rfl, rfl, wy⟩ := open_int Try.underlying5 o2 k2
  have hn : n ≤ 140737488351232 := by
    rcases hd with h | ⟨elems, spare, rfl, hle⟩
    · omega
    · have := sized_slice hsz (j := 0) (t := 23) (e := 5) rfl rfl Try.underlying23
      rw [bytes_size, reach_eq] at this
      omega
  have hx : -9223372036854775808 ≤ x ∧ x ≤ 9223372036854775807 := by simpa [Lit.wf, IntKind.min, IntKind.max, IntKind.signed, IntKind.bits] using wx
  obtain ⟨hx1, hx2⟩ := hx
  obtain ⟨hy1, hy2⟩ := byte_wf wy
  have hlen : l.length = n := by have := hS.len; simpa using this
  have HL := Lib.hid hlen
  have hcm : c ≤ 9223372036854775807 := by have := hS.cmax; unfold maxLen at this; omega
  have hnc := hS.le
  clear k0 k1 k2 o0 o1 o2 hsz wx wy hd hlen
  by_cases h0 : n = 0
  · subst h0
    go_enter Try.func6, Try.ntmps6
    go_wp2_with fail
    refine (shown_any _).mono ?_
    rintro e w1 ⟨rfl, hb1⟩
    go_wp2_with fail
    go_ret
    exact ⟨rfl, hb1⟩
  · have hne : ((n : Int) == 0) = false := by simp; omega
    by_cases hy0 : y = 0
    · subst hy0
      go_enter Try.func6, Try.ntmps6
      go_wp2_with fail
      refine (shown_any _).mono ?_
      rintro e w1 ⟨rfl, hb1⟩
      go_wp2_with fail
      go_ret
      exact ⟨rfl, hb1⟩
    · have hye : (y == 0) = false := by simp; omega
      go_enter Try.func6, Try.ntmps6
      go_wp2_with fail
      refine (shown_any _).mono ?_
      rintro e w1 ⟨rfl, hb1⟩
      have hs1 := hb1.size
      obtain ⟨A2, c2, w2, hr2, hown2, hg2, hat2⟩ := append_bytes (w1.alloc (.cells #[] 5)) w1.heap.size (.slice (some ⟨w1.heap.size, 0, none⟩) 0 0) 0 [] (World.ownsRow_made w1 #[] 0 (Nat.le_refl _) (by decide) rfl)
        W.heap.size A n c l ((hS.below hb1).below ((Below.refl _ _).alloc hs1 _)) (by omega) (by simp)
      have hb2 : Below w1.heap.size w1 w2 := ((Below.refl _ w1).alloc (Nat.le_refl _) _).grown hg2 (by simp) (by simp [Value.ownBlock])
      have hs2 := hb2.size
      have hS2 := own_slc_of hown2
      rw [Nat.zero_add, List.nil_append] at hS2
      obtain ⟨g, hA2, hgb⟩ : ∃ g, A2 = some ⟨g, 0, none⟩ ∧ w1.heap.size ≤ g := by
        rcases hown2.2 with ⟨hv, h00⟩ | ⟨g, cap, cur, hv, hgb, _⟩
        · omega
        · injection hv with e1 e2 e3; exact ⟨g, e1, hgb⟩
      subst hA2
      have hfr : ∀ i, w2.frozen? ⟨g, i, none⟩ = false := by
        intro i
        rcases hown2.2 with ⟨hv, h00⟩ | ⟨g', cap, cur, hv, _, hh, _⟩
        · omega
        · injection hv with e1 e2 e3
          injection e1 with e1
          injection e1 with e1 _ _
          subst e1
          simp [World.frozen?, hh]
      simp only [Nat.zero_add] at hr2
      have hSk : Slc w2 W.heap.size 1 A n c (l.map bv) := (hS.below hb1).below (hb2.mono hs1)
      have hbW : Below W.heap.size W w2 := hb1.trans (hb2.mono hs1)
      clear hb2 hg2 hown2 hat2 hS
      obtain ⟨q, hq⟩ : ∃ q : Nat, (x < 0 ∧ -(x + 1) = (q : Int)) ∨ (0 ≤ x ∧ x = (q : Int)) := by
        by_cases hneg : x < 0
        · exact ⟨(-(x + 1)).toNat, .inl ⟨hneg, by omega⟩⟩
        · exact ⟨x.toNat, .inr ⟨by omega, by omega⟩⟩
      have hqm : q ≤ 9223372036854775807 := by omega
      have hmod : q % n < n := Nat.mod_lt _ (by omega)
      have hml : q % n < l.length := by have := HL.out; omega
      have hcell : w2.cell? ⟨g, q % n, none⟩ = some (.int .u8 (l[q % n].toNat : Int)) := by
        obtain ⟨b, off, e, _, hl, hc⟩ := hS2.byte hmod
        injection e with e
        injection e with e1 e2 _
        subst e1 e2
        rwa [Nat.zero_add] at hc
      have hfz := hfr (q % n)
      have hn1 : 1 ≤ n := by omega
      have HFR := Lib.hid hfr
      clear hfr
      obtain ⟨b', hb', hbne⟩ : ∃ b' : UInt8, bits BinOp.xor IntKind.u8 (l[q % n].toNat : Int) y = (b'.toNat : Int) ∧ b' ≠ l[q % n] := by
        have hy8 : y = ((UInt8.ofNat y.toNat).toNat : Int) := by
          rw [UInt8.toNat_ofNat_of_lt' (show y.toNat < 2 ^ 8 by omega)]; omega
        refine ⟨l[q % n] ^^^ UInt8.ofNat y.toNat, ?_, ?_⟩
        · conv => lhs; rw [hy8]
          rw [u8_xor_nat _ _ (u8_lt _) (u8_lt _), UInt8.toNat_xor]
        · intro he
          have h1 := congrArg (l[q % n] ^^^ ·) he
          simp only [← UInt8.xor_assoc, UInt8.xor_self, UInt8.zero_xor] at h1
          rw [h1] at hy8
          simp at hy8
          omega
      have hne2 := updAll_seen begin64 l (q % n) b' hml hbne
      have hS4 : ∀ w', w' = (w2.setCell ⟨g, q % n, none⟩ (.int .u8 (b'.toNat : Int))).drew → Slc w' w2.heap.size 1 (some ⟨g, 0, none⟩) n c2 ((l.set (q % n) b').map bv) := by
        intro w' hw'
        have := hS2.set_ (v := .int .u8 (b'.toNat : Int)) hcell (by simpa using hml)
        rw [List.map_set]
        subst hw'
        refine Slc.keep this fun p hp => ?_
        exact World.cell?_drew _ _
      have hS5 : ∀ w', w' = (w2.setCell ⟨g, q % n, none⟩ (.int .u8 (b'.toNat : Int))).drew → Slc w' W.heap.size 1 A n c (l.map bv) := by
        intro w' hw'
        subst hw'
        exact hSk.keep fun p hp => World.cell?_setCell_other _ _ _ _ (by rintro rfl; simp only at hp; omega)
      have hb5 : ∀ w', w' = (w2.setCell ⟨g, q % n, none⟩ (.int .u8 (b'.toNat : Int))).drew → Below W.heap.size W w' := by
        intro w' hw'
        subst hw'
        exact (hbW.setCell (p := ⟨g, q % n, none⟩) (by simp only; omega) _).drew
      have HB' := Lib.hid hb'
      have HNE2 := Lib.hid hne2
      have HS4 := Lib.hid hS4
      have HS5 := Lib.hid hS5
      have HB5 := Lib.hid hb5
      clear hb' hne2 hS4 hS5 hb5 hbne
      have hlast : ∀ w4 : World, w4 = (w2.setCell ⟨g, q % n, none⟩ (.int .u8 (b'.toNat : Int))).drew → True := fun _ _ => trivial
      clear hlast
      rcases hq with ⟨hneg, hq⟩ | ⟨hneg, hq⟩
      · have HQ := Lib.hid hq
        clear hq
        go_wp2_with (at_builtin; refine wpList_append_run rfl _ _ _ rfl rfl rfl hr2 ?_; clear hr2)
        rw [HQ.out]
        clear hneg HQ hx1 hx2
        go_region
        rw [HB'.out]
        obtain ⟨w4, hw4⟩ : ∃ w4, w4 = (w2.setCell ⟨g, q % n, none⟩ (.int .u8 (b'.toNat : Int))).drew := ⟨_, rfl⟩
        have h4 := HS4.out w4 hw4
        have h5 := HS5.out w4 hw4
        have h6 := HB5.out w4 hw4
        rw [← hw4]
        clear hw4 HS4 HS5 HB5 hcell hfz
        have hneq : ¬ ((updAll begin64 (l.set (q % n) b')).toNat : Int) = ((updAll begin64 l).toNat : Int) := by
          intro h
          exact HNE2.out (UInt64.toNat_inj.1 (by omega))
        go_wp2_with fail
        refine (sum_any _ n c2 _ _ _ h4).mono ?_
        rintro e w5 ⟨rfl, rfl⟩
        go_wp2_with fail
        refine (sum_any A n c _ l _ h5).mono ?_
        rintro e w5 ⟨rfl, rfl⟩
        have htx : ((hexl 16 (updAll begin64 (l.set (q % n) b')).toNat) == (hexl 16 (updAll begin64 l).toNat)) = false := by
          rw [beq_eq_false_iff_ne]
          intro h
          have h2 := parsed_text (updAll begin64 (l.set (q % n) b'))
          rw [h, parsed_text] at h2
          injection h2 with h2
          exact HNE2.out (UInt64.toNat_inj.1 h2.symm)
        have HTX := Lib.hid htx
        clear htx
        go_wp2_with fail
        refine (sum_any _ n c2 _ _ _ h4).mono ?_
        rintro e w5 ⟨rfl, rfl⟩
        go_wp2_with fail
        refine (text_any _ _).mono ?_
        rintro e w5 ⟨rfl, hb5⟩
        have h7 := h5.below (hb5.mono h6.size)
        go_wp2_with fail
        refine (sum_any A n c _ l _ h7).mono ?_
        rintro e w6 ⟨rfl, rfl⟩
        go_wp2_with fail
        refine (text_any _ _).mono ?_
        rintro e w6 ⟨rfl, hb6⟩
        go_wp2_with fail
        go_ret
        have hs4 := h6.size
        have hs5 := hb5.size
        exact ⟨by simp [HTX.out]; exact hneq, (h6.trans (hb5.mono hs4)).trans (hb6.mono (by omega))⟩
      · subst hq
        go_wp2_with (at_builtin; refine wpList_append_run rfl _ _ _ rfl rfl rfl hr2 ?_; clear hr2)
        clear hneg hx1 hx2
        go_region
        rw [HB'.out]
        obtain ⟨w4, hw4⟩ : ∃ w4, w4 = (w2.setCell ⟨g, q % n, none⟩ (.int .u8 (b'.toNat : Int))).drew := ⟨_, rfl⟩
        have h4 := HS4.out w4 hw4
        have h5 := HS5.out w4 hw4
        have h6 := HB5.out w4 hw4
        rw [← hw4]
        clear hw4 HS4 HS5 HB5 hcell hfz
        have hneq : ¬ ((updAll begin64 (l.set (q % n) b')).toNat : Int) = ((updAll begin64 l).toNat : Int) := by
          intro h
          exact HNE2.out (UInt64.toNat_inj.1 (by omega))
        go_wp2_with fail
        refine (sum_any _ n c2 _ _ _ h4).mono ?_
        rintro e w5 ⟨rfl, rfl⟩
        go_wp2_with fail
        refine (sum_any A n c _ l _ h5).mono ?_
        rintro e w5 ⟨rfl, rfl⟩
        have htx : ((hexl 16 (updAll begin64 (l.set (q % n) b')).toNat) == (hexl 16 (updAll begin64 l).toNat)) = false := by
          rw [beq_eq_false_iff_ne]
          intro h
          have h2 := parsed_text (updAll begin64 (l.set (q % n) b'))
          rw [h, parsed_text] at h2
          injection h2 with h2
          exact HNE2.out (UInt64.toNat_inj.1 h2.symm)
        have HTX := Lib.hid htx
        clear htx
        go_wp2_with fail
        refine (sum_any _ n c2 _ _ _ h4).mono ?_
        rintro e w5 ⟨rfl, rfl⟩
        go_wp2_with fail
        refine (text_any _ _).mono ?_
        rintro e w5 ⟨rfl, hb5⟩
        have h7 := h5.below (hb5.mono h6.size)
        go_wp2_with fail
        refine (sum_any A n c _ l _ h7).mono ?_
        rintro e w6 ⟨rfl, rfl⟩
        go_wp2_with fail
        refine (text_any _ _).mono ?_
        rintro e w6 ⟨rfl, hb6⟩
        go_wp2_with fail
        go_ret
        have hs4 := h6.size
        have hs5 := hb5.size
        exact ⟨by simp [HTX.out]; exact hneq, (h6.trans (hb5.mono hs4)).trans (hb6.mono (by omega))⟩
end Go.Proofs.Ytbelkkhfjbbldaa
