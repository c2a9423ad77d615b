/- The walk of the law WalHomes. -/
import Derived.Test.YtjdlaocmifobnaaWalShown
namespace Go.Proofs.Ytjdlaocmifobnaa
open Go.RowKit Go.ChangeShapes Go.WideShapes
set_option linter.unusedVariables false
set_option linter.unusedSimpArgs false

theorem ba_extract (l : List UInt8) (i : Nat) : (ByteArray.mk l.toArray).extract i (ByteArray.mk l.toArray).size = ByteArray.mk (l.drop i).toArray := by
  apply ByteArray.ext
  simp [ByteArray.data_extract]
  rw [List.take_of_length_le]
  simp [ByteArray.size]
theorem img_length {l : List (List UInt8)} (h : Sectors l) : (imgBytes l).length = l.length * 128 := by
  induction l with
  | nil => rfl
  | cons s l ih =>
    have h1 := h s List.mem_cons_self
    have h2 := ih (fun x hx => h x (List.mem_cons_of_mem _ hx))
    simp only [imgBytes, List.flatten_cons, List.length_append, List.length_cons] at h2 ⊢
    omega
theorem img_drop {S : List (List UInt8)} (h : Sectors S) {k : Nat} (hl : S.length = k + 24) : (imgBytes S).drop (k * 128) = homesB k fun i => S.getD i [] := by
  have e : imgBytes S = imgBytes (S.take k) ++ imgBytes (S.drop k) := by unfold imgBytes; rw [← List.flatten_append, List.take_append_drop]
  have hk : (imgBytes (S.take k)).length = k * 128 := by rw [img_length (fun s hs => h s (List.mem_of_mem_take hs)), List.length_take, hl, Nat.min_eq_left (by omega)]
  rw [e, List.drop_left' hk]
  unfold homesB homesTo imgBytes
  rw [List.flatMap_def]
  congr 1
  apply List.ext_getElem?
  intro i
  rcases Nat.lt_or_ge i 24 with hi | hi
  · rw [List.getElem?_drop, List.getElem?_map, List.getElem?_range hi, Option.map_some]
    show S[k + i]? = some (S.getD (k + i) [])
    rw [List.getD_eq_getElem?_getD, List.getElem?_eq_getElem (show k + i < S.length by omega)]
    rfl
  · rw [List.getElem?_eq_none (by simp; omega), List.getElem?_eq_none (by simpa using hi)]
def SliceStrS (ty : TypeId) (x : Value) (lo hi mx : Option Value) : Sem Value := Instr.slice ty x lo hi mx
theorem slice_str_mark (x : Value) (lo hi mx : Option Value) : Instr.slice 9 x lo hi mx = SliceStrS 9 x lo hi mx := rfl
theorem SliceStrS.from_ {l : List UInt8} {k : Nat} {z : Int} (hz : z = (k : Int)) (hk : k ≤ l.length) (w : World) : (SliceStrS 9 (.string ⟨l.toArray⟩) (some (.int .i64 z)) none none).run Try.prog w = .ok (.string ⟨(l.drop k).toArray⟩) w := by
  subst hz
  unfold SliceStrS
  rw [run_slice_string_l (P := Try.prog) w 9 ⟨l.toArray⟩ Try.underlying9 .i64 (k : Int) (by omega) (by simp [ByteArray.size]; omega), ← ba_extract]
  rfl
/-- A log is opened over the disk of a log that was played with. -/
theorem Played.opened {w wi : World} {p go gs pd n : Nat} {L : LogM} {F : Nat → Prop} {D : DiskM} (h : Played w wi F p go gs pd n L D) :
    Calls Try.prog 16 #[.pointer (some ⟨pd, 0, none⟩), .int .i64 0, .int .i64 (n : Int)] wi fun e w' => ∃ p' go' gs', e = .returned (.tuple #[.pointer (some ⟨p', 0, none⟩), .int .i64 0]) ∧ Below wi.heap.size wi w' ∧ Played w w' F p' go' gs' pd n { L with staged := [] } D := by
  have hok := h.inv.ok
  have hn4 := hok.n4
  have hn255 := hok.n255
  have hoc := open_coded h.inv.coded hok h.inv.rest.up
  rw [h.base, h.size] at hoc
  rw [h.size] at hn4 hn255
  have hop := open_any h.run.wal.disk 0 n (by unfold mayB; rw [decide_eq_true_eq]; omega)
  rw [hoc] at hop
  refine hop.mono ?_
  rintro e w3 ⟨hb3, _, hl3⟩
  obtain ⟨p', go', gs', rfl, hlog, hft⟩ := hl3 _ rfl
  have hL : ({ base := 0, n := n, epoch := L.epoch, used := L.used, sum := L.sum, over := L.over, staged := [], dead := false } : LogM) = { L with staged := [] } := by
    rw [← h.inv.alive, ← h.base, ← h.size]
  rw [hL] at hlog
  refine ⟨p', go', gs', rfl, hb3, ⟨h.run.below.trans (hb3.mono h.run.below.size), ⟨hlog, h.run.wal.disk.free hb3, fun k hk hf => ?_⟩, fun k hk => ?_⟩, h.inv.dropI, h.armed, h.base, h.size⟩
  · have h1 := hft k hk
    have h2 := h.run.wal.disk.1 k hf
    omega
  · rcases hk with hk | hk
    · exact h.run.foot k (.inl hk)
    · have h1 := hft k hk
      have h2 := h.run.below.size
      omega

section
attribute [local go_sem ↓] slice_str_mark
set_option maxRecDepth 100000 in
set_option maxHeartbeats 4000000 in
theorem homes_law (w : World) (n : Int) (hn : -9223372036854775808 ≤ n ∧ n ≤ 9223372036854775807) {A : Option Addr} {m c : Nat} {l : List WOp} (hl : l.length = m) (hS : Slc w w.heap.size 5 A m c (l.flatMap wopCells)) (hO : ∀ o ∈ l, WOpOk o) :
    Calls Try.prog 7 #[.int .i64 n, .slice A m c] w fun e w' => e = .returned (.bool true) ∧ Below w.heap.size w w' := by
  have hk := madeK_le n
  have HMADE := Lib.hid (fun (wi : World) (hb : Below w.heap.size w wi) => made_played n hn hb)
  have HPL := Lib.hid (And.intro hl (And.intro hS hO))
  generalize madeK n = K at *
  clear hl hS hO
  go_enter Try.func7, Try.ntmps7
  go_wp2_with fail
  refine (wshown_any w).mono ?_
  rintro e w1 ⟨rfl, hb1⟩
  go_wp2_with fail
  refine (HMADE.out w1 hb1).mono ?_
  rintro e w2 ⟨p, go, gs, pd, F2, rfl, P2⟩
  have HP2 := Lib.hid P2
  clear hb1 P2
  go_wp2_with fail
  refine (play_any HP2.out HPL.out.1 HPL.out.2.1 HPL.out.2.2).mono ?_
  rintro e w3 ⟨rfl, F3, L3, D3, P3⟩
  have HP3 := Lib.hid P3
  clear P3
  go_wp2_with fail
  refine HP3.out.drop.mono ?_
  rintro e w4 ⟨rfl, P4⟩
  obtain ⟨L4, hL4⟩ : ∃ L4 : LogM, L4 = { L3 with staged := [] } := ⟨_, rfl⟩
  rw [← hL4] at P4
  have HP4 := Lib.hid P4
  have HS4 := Lib.hid (show L4.staged = [] by rw [hL4])
  have HSAME := Lib.hid (show ({ L4 with staged := [] } : LogM) = L4 by rw [hL4])
  clear P4 hL4
  go_wp2_with fail
  refine HP4.out.homes.mono ?_
  rintro e w5 ⟨rfl, _, P5⟩
  obtain ⟨was, hwas⟩ : ∃ was, was = homesB K (L4.val D3) := ⟨_, rfl⟩
  have HWAS := Lib.hid hwas
  have HP5 := Lib.hid P5
  rw [← hwas]
  clear hwas P5
  go_wp2_with fail
  refine HP5.out.opened.mono ?_
  rintro e w6 ⟨p6, go6, gs6, rfl, hb6, P6⟩
  rw [HSAME.out] at P6
  have HP6 := Lib.hid P6
  have HQ6 := Lib.hid (HP5.out.free hb6)
  clear hb6 P6
  go_wp2_with fail
  refine HP6.out.homes.mono ?_
  rintro e w7 ⟨rfl, hb7, _⟩
  rw [← HWAS.out]
  have HQ7 := Lib.hid (HQ6.out.free hb7)
  clear hb7
  go_wp2_with fail
  refine HQ7.out.home.mono ?_
  rintro e w8 ⟨rfl, F8, P8⟩
  have hfin := HQ7.out.inv.homeI HQ7.out.armed
  have hval : ∀ i, i < 24 → (homeR (K + 24) L4 D3).2.1.val (homeR (K + 24) L4 D3).2.2 (K + i) = L4.val D3 (K + i) ∧ (homeR (K + 24) L4 D3).2.2.now.getD (K + i) [] = L4.val D3 (K + i) := fun i hi => by
    have h1 := hfin.2.2.2.2.2.2.2.1 (K + i) (HQ7.out.behind hi)
    have h2 : L4.val D3 (K + i) = told L4 D3.now (K + i) := by rw [val_told, HS4.out]; rfl
    refine ⟨?_, h1.trans h2.symm⟩
    rw [val_told, hfin.2.2.2.2.1, HS4.out, h2]
    unfold told
    rw [hfin.2.2.2.2.2.2.1]
    exact h1
  have hw8 : homesB K ((homeR (K + 24) L4 D3).2.1.val (homeR (K + 24) L4 D3).2.2) = was := by rw [HWAS.out]; exact homesB_congr fun i hi => (hval i hi).1
  have hr8 : (imgBytes (homeR (K + 24) L4 D3).2.2.now).drop (K * 128) = was := by
    rw [img_drop hfin.2.1.rest.ok.now hfin.2.1.rest.ok.nowLen, HWAS.out]
    exact homesB_congr fun i hi => (hval i hi).2
  have hlen8 : K * 128 ≤ (imgBytes (homeR (K + 24) L4 D3).2.2.now).length := by
    rw [img_length hfin.2.1.rest.ok.now, hfin.2.1.rest.ok.nowLen]; omega
  have hu8 := hfin.2.2.2.2.2.1
  have hl8 := hfin.2.1.rest.loose
  generalize homeR (K + 24) L4 D3 = R at *
  obtain ⟨E8, L8, D8⟩ := R
  simp only at hw8 hr8 hlen8 hu8 hl8 P8
  have HP8 := Lib.hid P8
  have HW8 := Lib.hid hw8
  have HU8 := Lib.hid (show ((L8.used : Nat) : Int) = 0 by rw [hu8]; rfl)
  have HL8 := Lib.hid (show ((D8.loose.length : Nat) : Int) = 0 by rw [hl8]; rfl)
  have hsl := SliceStrS.from_ (l := imgBytes D8.now) (k := K) (z := (K : Int)) rfl (by omega)
  have hmul : IntKind.i64.wrap ((K : Int) * 128) = (K : Int) * 128 := IntWalk.i64_in _ (by omega)
  have hsl := SliceStrS.from_ (l := imgBytes D8.now) (k := K * 128) (z := (K : Int) * 128) (by omega) hlen8
  rw [hr8] at hsl
  obtain ⟨im, him⟩ : ∃ im, im = imgBytes D8.now := ⟨_, rfl⟩
  rw [← him] at hsl
  have HIM := Lib.hid him
  have hroom : D8.loose.length ≤ 1000000 := by rw [hl8]; exact Nat.zero_le _
  have HROOM := Lib.hid hroom
  clear P8 hw8 hr8 hlen8 hu8 hl8 hfin hval him hroom
  go_wp2_with fail
  refine HP8.out.homes.mono ?_
  rintro e w9 ⟨rfl, _, P9⟩
  rw [HW8.out]
  have HP9 := Lib.hid P9
  clear P9
  go_wp2_with fail
  refine (image_any HP9.out.run.wal.disk HROOM.out).mono ?_
  rintro e w10 ⟨rfl, hb10⟩
  rw [← HIM.out]
  have HP10 := Lib.hid (HP9.out.free hb10)
  clear hb10
  go_wp2_with fail
  refine (used_any HP10.out.run.wal.log).mono ?_
  rintro e w11 ⟨rfl, rfl⟩
  rw [HU8.out]
  go_wp2_with fail
  refine (dirtyAny HP10.out.run.wal.disk).mono ?_
  rintro e w12 ⟨rfl, rfl⟩
  rw [HL8.out]
  go_wp2_with fail
  go_ret
  exact ⟨rfl, HP10.out.run.below⟩
end
set_option maxRecDepth 100000 in
theorem WalHomes_walk {H : Type} {enc : TypeId × Value → H} (W : World) (base : Nat) (v0 v1 : Value) (d0 d1 : DataW H) (p0 p1 : List MemPlace)
    (o0 : Value.okWide Try.prog W .any base 3 v0) (o1 : Value.okWide Try.prog W .any base 22 v1)
    (k0 : DataW.Trod enc Try.prog W 0 (fun _ => true) true 3 v0 d0 p0) (k1 : DataW.Trod enc Try.prog W 0 (fun _ => true) true 22 v1 d1 p1)
    (hsz : (DataW.weightsEach Try.prog [3, 22] [d0, d1]).all (· ≤ reachBytes) = true) :
    Calls Try.prog 7 #[v0, v1] W fun e w' => e = .returned (.bool true) ∧ Below W.heap.size W w' := by
  obtain ⟨A1, n1, c1, l1, rfl, hl1, hS1, hO1⟩ := open_wops o1 k1
  obtain ⟨x, rfl, rfl, rfl, wx⟩ := open_int Try.underlying3 o0 k0
  exact homes_law W x (int_wf wx) hl1 hS1 hO1
end Go.Proofs.Ytjdlaocmifobnaa
