/- The walk of the law DiskSafe. -/
import Derived.Test.YtbelkkhfjbbldaaDiskPlain
namespace Go.Proofs.Ytbelkkhfjbbldaa
open Go.RowKit Go.ChangeShapes Go.WideShapes
set_option linter.unusedVariables false
set_option linter.unusedSimpArgs false

theorem OpOk.below {w w' : World} {o : OpM} (h : OpOk w o) (hb : Below w.heap.size w w') : OpOk w' o := ⟨(h.slc.below hb).more hb.size, h.small, h.kind, h.a⟩

section
variable {w wi wj : World} {F F' : Nat → Prop} {p N : Nat} {D D' : DiskM}
/-- What the disk of another part is, where another's is turned. -/
theorem Run.apart (r : Run w wi F p N D) {G G' : Nat → Prop} (s : Step wi wj G G') (hG : ∀ k, G k → w.heap.size ≤ k) (hd : ∀ k, F k → ¬ G k) : Run w wj F p N D :=
  ⟨r.below.trans (s.below r.below.size hG), r.disk.step s hd, r.foot⟩
theorem Run.crashS (r : Run w wi F p N D) (z : Int) (k : UInt64) (hz : z = (k.toNat : Int)) :
    Calls Try.prog 25 #[.pointer (some ⟨p, 0, none⟩), .int .u64 z] wi fun e w' => e = .returned (.tuple #[]) ∧ Step wi w' F F ∧ Run w w' F p N (D.crash k) := by
  subst hz
  exact (crashAny r.disk k).mono fun _ _ ⟨he, hs, hd⟩ => ⟨he, hs, r.step hs hd⟩
theorem Run.startS (r : Run w wi F p N D) :
    Calls Try.prog 26 #[.pointer (some ⟨p, 0, none⟩)] wi fun e w' => e = .returned (.int .i64 D.startE) ∧ Step wi w' F F ∧ Run w w' F p N D.start :=
  (start_any r.disk).mono fun _ _ ⟨he, hs, hd⟩ => ⟨he, hs, r.step hs hd⟩
/-- A sector's bytes, from anywhere apart, are written. -/
theorem Run.put (r : Run w wi F p N D) (hb : Below wi.heap.size wi wj) (i : Int) {A : Option Addr} {n c B : Nat} {l : List UInt8} (hS : Slc wj B 1 A n c (l.map bv)) (hsep : ∀ a, A = some a → wi.heap.size ≤ a.block) (hroom : D.loose.length ≤ 1000000) :
    Calls Try.prog 23 #[.pointer (some ⟨p, 0, none⟩), .int .i64 i, .slice A n c] wj fun e w' => e = .returned (.int .i64 (D.writeE N i l)) ∧ ∃ F', Step wj w' F F' ∧ Run w w' F' p N (D.write N i l) :=
  (write_any (r.disk.free hb) i hS (fun a ha hf => by have h1 := hsep a ha; have h2 := r.disk.1 _ hf; omega) hroom).mono fun _ _ ⟨he, F', hs, hd⟩ => ⟨he, F', hs, (r.free hb).step hs hd⟩
theorem Run.image (r : Run w wi F p N D) (hu : D.up = true) :
    Calls Try.prog 22 #[.pointer (some ⟨p, 0, none⟩)] wi fun e w' => e = .returned (.string ⟨(imgBytes D.now).toArray⟩) ∧ Below wi.heap.size wi w' ∧ Run w w' F p N D :=
  (image_any r.disk hu).mono fun _ _ ⟨he, hb⟩ => ⟨he, hb, r.free hb⟩
theorem Run.drew (r : Run w wi F p N D) : Run w wi.drew F p N D := r.free (Below.refl wi.heap.size wi).drew
end

/-- Made, a disk of the call's own. -/
theorem made_run {w wi : World} (hb : Below w.heap.size w wi) (n : Int) (hn : -9223372036854775808 ≤ n ∧ n ≤ 9223372036854775807) {A : Option Addr} {m c : Nat} {l : List OpM} (hl : l.length = m) (hS : Slc w w.heap.size 6 A m c (l.flatMap opCells)) (hO : ∀ o ∈ l, OpOk w o) :
    Calls Try.prog 20 #[.int .i64 n, .slice A m c] wi fun e w' => ∃ p F', e = .returned (.pointer (some ⟨p, 0, none⟩)) ∧ Run w w' F' p (madeN n) (madeD n l) := by
  refine (made_any n hn wi hl ((hS.below hb).more hb.size) (fun o ho => (hO o ho).below hb)).mono ?_
  rintro e w' ⟨p, F', rfl, hb1, hd, hF⟩
  exact ⟨p, F', rfl, hb.trans (hb1.mono hb.size), hd, fun k hk => Nat.le_trans hb.size (hF k hk)⟩

set_option maxRecDepth 100000 in
set_option maxHeartbeats 4000000 in
theorem safe_any (w : World) (n : Int) (hn : -9223372036854775808 ≤ n ∧ n ≤ 9223372036854775807) {A1 A2 : Option Addr} {m1 c1 m2 c2 : Nat} {l1 l2 : List OpM} (hl1 : l1.length = m1) (hS1 : Slc w w.heap.size 6 A1 m1 c1 (l1.flatMap opCells)) (hO1 : ∀ o ∈ l1, OpOk w o)
    (hl2 : l2.length = m2) (hS2 : Slc w w.heap.size 6 A2 m2 c2 (l2.flatMap opCells)) (hO2 : ∀ o ∈ l2, OpOk w o) :
    Calls Try.prog 9 #[.int .i64 n, .slice A1 m1 c1, .slice A2 m2 c2] w fun e w' => e = .returned (.bool true) ∧ Below w.heap.size w w' := by
  have hMade := fun (wi : World) (hb : Below w.heap.size w wi) => made_run hb n hn hl1 hS1 hO1
  have HMADE := Lib.hid hMade
  have hst := made_still n l1
  have HST := Lib.hid hst
  have HL := Lib.hid hl2
  have HS := Lib.hid hS2
  have HO := Lib.hid hO2
  have hcm : m2 ≤ 9223372036854775807 := by have h1 := hS2.le; have h2 := hS2.cmax; simp only [maxLen] at h2; omega
  generalize madeD n l1 = E at *
  generalize madeN n = N at *
  clear hMade hst hl1 hS1 hO1 hl2 hS2 hO2 hn
  go_enter Try.func9, Try.ntmps9
  go_wp2_with fail
  refine (dshown_any w).mono ?_
  rintro e w1 ⟨rfl, hb1⟩
  go_wp2_with fail
  refine (HMADE.out w1 hb1).mono ?_
  rintro e w2 ⟨p, F2, rfl, R2⟩
  clear hb1 HMADE
  go_wp2_with fail
  refine (R2.image HST.out.up).mono ?_
  rintro e w3 ⟨rfl, _, R3⟩
  clear R2
  go_wp2_with fail
  go_loopw [10] (fun i wr => ∃ (k : Nat) (F' : Nat → Prop), k ≤ m2 ∧ k ≤ 60 ∧ i = .int .i64 (k : Int) ∧ Run w wr F' p N (moresDo N (l2.take k) E)) (fun i _ => m2 - (intOf i).toNat)
  case atStart => exact ⟨0, _, by omega, by omega, rfl, R3⟩
  case round =>
    obtain ⟨k, F', hk, hk60, rfl, R⟩ := hrel
    clear R3
    by_cases hlt : k < m2 ∧ k < 60
    · obtain ⟨hlt, hlt60⟩ := hlt
      obtain ⟨b, off, rfl, hkl, x0, x1, x2, x3, x4, x5⟩ := op_cells (HS.out.below R.below) HL.out hlt
      have hok := HO.out l2[k] (List.getElem_mem hkl)
      have hstep := moresDo_take N l2 E k hkl
      have hcalm := (moresDo_calm N (l2.take k) _ _ HST.out.calm).1
      have hroom := hcalm.few
      rw [List.length_take, Nat.zero_add] at hroom
      generalize hoe : l2[k] = o at *
      have HSTEP := Lib.hid hstep
      have HR := Lib.hid R
      have HOK := Lib.hid hok
      have HOE := Lib.hid hoe
      have hroom2 : (moresDo N (l2.take k) E).loose.length ≤ 1000000 := by omega
      have HROOM := Lib.hid hroom2
      clear hstep R hok hcalm hroom hoe hroom2
      by_cases h0 : o.kind = 1
      · have hk0 : (o.kind != 1) = false := by simp [h0]
        have H0 := Lib.hid h0
        clear h0
        go_wp2_with fail
        refine ⟨⟨k + 1, F', by omega, by omega, by go_num, ?_⟩, by simp [intOf]; omega⟩
        rw [HSTEP.out]
        unfold moreDo
        rw [if_pos H0.out]
        exact HR.out
      · have hk0 : (o.kind != 1) = true := by simpa using h0
        have H0 := Lib.hid h0
        clear h0
        go_wp2_with fail
        have hcells : ∀ W, Below w.heap.size w W → (W.cell? ⟨b, off + k * 6, none⟩ = some (.int .i64 o.kind) ∧ W.cell? ⟨b, off + k * 6 + 1, none⟩ = some (.int .i64 o.a) ∧ W.cell? ⟨b, off + k * 6 + 2, none⟩ = some (.slice o.bA o.bn o.bc) ∧
            W.cell? ⟨b, off + k * 6 + 3, none⟩ = some (.int .u8 (o.c.toNat : Int)) ∧ W.cell? ⟨b, off + k * 6 + 4, none⟩ = some (.bool o.fit) ∧ W.cell? ⟨b, off + k * 6 + 5, none⟩ = some (.int .u64 (o.keep.toNat : Int))) := fun W hW => by
          obtain ⟨b', off', e, hkl', y0, y1, y2, y3, y4, y5⟩ := op_cells (HS.out.below hW) HL.out hlt
          injection e with e
          injection e with e1 e2 _
          subst e1 e2
          rw [HOE.out] at y0 y1 y2 y3 y4 y5
          exact ⟨y0, y1, y2, y3, y4, y5⟩
        have HCELLS := Lib.hid hcells
        have hbd := HR.out.below.drew
        clear hcells
        go_region_held3 (fun W => W.cell? ⟨b, off + k * 6, none⟩ = some (.int .i64 o.kind) ∧ W.cell? ⟨b, off + k * 6 + 1, none⟩ = some (.int .i64 o.a) ∧ W.cell? ⟨b, off + k * 6 + 2, none⟩ = some (.slice o.bA o.bn o.bc) ∧
            W.cell? ⟨b, off + k * 6 + 3, none⟩ = some (.int .u8 (o.c.toNat : Int)) ∧ W.cell? ⟨b, off + k * 6 + 4, none⟩ = some (.bool o.fit) ∧ W.cell? ⟨b, off + k * 6 + 5, none⟩ = some (.int .u64 (o.keep.toNat : Int)))
          (first | exact HCELLS.out _ (by assumption) | exact HCELLS.out _ hbd)
          (first | (go_at_call 32; refine (sector_any o _ (HOK.out.slc.below hbd) HOK.out.small).mono ?_; rintro e w4 ⟨A3, n3, c3, rfl, hb4, hs4, hsep4⟩; have hbw4 : Below w.heap.size w w4 := hbd.trans (hb4.mono hbd.size)) | (go_at_call 23; refine (HR.out.drew.put hb4 o.a hs4 hsep4 HROOM.out).mono ?_; rintro e w5 ⟨rfl, F5, hst5, R5⟩; have hbw5 : Below w.heap.size w w5 := R5.below))
        have HR5 := Lib.hid R5
        clear hst5 R5 hs4 hsep4 hb4
        go_wp2_with fail
        refine ⟨⟨k + 1, F5, by omega, by omega, by go_num, ?_⟩, by simp [intOf]; omega⟩
        rw [HSTEP.out]
        unfold moreDo
        rw [if_neg H0.out]
        exact HR5.out
    · have hk2 : m2 ≤ k ∨ (k < m2 ∧ k = 60) := by omega
      have hcs := moresDo_calm N (l2.take k) _ _ HST.out.calm
      have hroom := hcs.1.few
      rw [List.length_take, Nat.zero_add] at hroom
      have hroom2 : (moresDo N (l2.take k) E).loose.length ≤ 1000000 := by omega
      have hnow : (moresDo N (l2.take k) E).safe = E.now := hcs.2.trans HST.out.safe
      have hcalm := hcs.1
      generalize moresDo N (l2.take k) E = M at *
      have HROOM := Lib.hid hroom2
      have HUP := Lib.hid hcalm.up
      have hno := crash_none hcalm
      have hall := crash_every hcalm
      rw [hnow] at hno
      have hE0 : (M.crash 0).startE = 0 := by unfold DiskM.startE; rw [hno.2.2.1]; rfl
      have hE1 : (M.crash 18446744073709551615).startE = 0 := by unfold DiskM.startE; rw [hall.2.1]; rfl
      have hL0 : ((M.crash 0).start.loose.length : Int) = 0 := by rw [hno.2.1]; rfl
      have HE0 := Lib.hid hE0
      have HE1 := Lib.hid hE1
      have HL0 := Lib.hid hL0
      have HN0 := Lib.hid hno
      have HN1 := Lib.hid hall
      clear hroom hcs hcalm hlt hroom2 hnow hno hall hE0 hE1 hL0
      rcases hk2 with hk2 | ⟨hk2, rfl⟩
      all_goals
        go_wp2_with fail
        refine (R.image HUP.out).mono ?_
        rintro e w4 ⟨rfl, _, R4⟩
        clear R
        go_wp2_with fail
        refine (clone_any R4.disk HROOM.out).mono ?_
        rintro e w5 ⟨q, rfl, hb5, hd5⟩
        have R5 := R4.free hb5
        obtain ⟨G, Q5, hFq, hqF⟩ : ∃ G : Nat → Prop, Run w w5 G q N M ∧ (∀ j, F' j → ¬ G j) ∧ (∀ j, G j → ¬ F' j) :=
          ⟨_, ⟨R5.below, hd5, fun j hj => Nat.le_trans R4.below.size hj.1⟩, fun j hj h => by have := R4.disk.1 j hj; have := h.1; omega, fun j h hj => by have := R4.disk.1 j hj; have := h.1; omega⟩
        clear R4 hb5 hd5
        go_wp2_with fail
        refine (R5.crashS 0 0 rfl).mono ?_
        rintro e w6 ⟨rfl, s6, R6⟩
        have Q6 := Q5.apart s6 R5.foot hqF
        clear R5 Q5 s6
        go_wp2_with fail
        refine (Q6.crashS 18446744073709551615 18446744073709551615 rfl).mono ?_
        rintro e w7 ⟨rfl, s7, Q7⟩
        have R7 := R6.apart s7 Q6.foot hFq
        clear R6 Q6 s7
        go_wp2_with fail
        refine R7.startS.mono ?_
        rintro e w8 ⟨rfl, s8, R8⟩
        have Q8 := Q7.apart s8 R7.foot hqF
        rw [HE0.out]
        clear R7 Q7 s8
        go_wp2_with fail
        refine Q8.startS.mono ?_
        rintro e w9 ⟨rfl, s9, Q9⟩
        have R9 := R8.apart s9 Q8.foot hFq
        rw [HE1.out]
        clear R8 Q8 s9
        go_wp2_with fail
        refine (dirtyAny R9.disk).mono ?_
        rintro e w10 ⟨rfl, rfl⟩
        rw [HL0.out]
        go_wp2_with fail
        refine (R9.image HN0.out.2.2.2).mono ?_
        rintro e w10 ⟨rfl, hb10, _⟩
        rw [HN0.out.1]
        have Q10 := Q9.free hb10
        clear R9 Q9 hb10
        go_wp2_with fail
        refine (Q10.image HN1.out.2.2).mono ?_
        rintro e w11 ⟨rfl, _, Q11⟩
        rw [HN1.out.1]
        clear Q10
        go_wp2_with fail
        go_ret
        exact ⟨rfl, Q11.below⟩

theorem DiskSafe_walk {H : Type} {enc : TypeId × Value → H} (W : World) (base : Nat) (v0 v1 v2 : Value) (d0 d1 d2 : DataW H) (p0 p1 p2 : List MemPlace)
    (o0 : Value.okWide Try.prog W .any base 3 v0) (o1 : Value.okWide Try.prog W .any base 35 v1) (o2 : Value.okWide Try.prog W .any base 35 v2)
    (k0 : DataW.Trod enc Try.prog W 0 (fun _ => true) true 3 v0 d0 p0) (k1 : DataW.Trod enc Try.prog W 0 (fun _ => true) true 35 v1 d1 p1) (k2 : DataW.Trod enc Try.prog W 0 (fun _ => true) true 35 v2 d2 p2)
    (hsz : (DataW.weightsEach Try.prog [3, 35, 35] [d0, d1, d2]).all (· ≤ reachBytes) = true) :
    Calls Try.prog 9 #[v0, v1, v2] W fun e w' => e = .returned (.bool true) ∧ Below W.heap.size W w' := by
  obtain ⟨A1, n1, c1, l1, rfl, hl1, hS1, hO1⟩ := open_ops o1 k1 (weights_le hsz (j := 1) rfl rfl)
  obtain ⟨A2, n2, c2, l2, rfl, hl2, hS2, hO2⟩ := open_ops o2 k2 (weights_le hsz (j := 2) rfl rfl)
  obtain ⟨x, rfl, rfl, rfl, wx⟩ := open_int Try.underlying3 o0 k0
  exact safe_any W x (int_wf wx) hl1 hS1 hO1 hl2 hS2 hO2
end Go.Proofs.Ytbelkkhfjbbldaa
