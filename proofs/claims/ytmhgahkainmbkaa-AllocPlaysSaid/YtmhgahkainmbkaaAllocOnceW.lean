/- The walk of the law AllocOnce. -/
import Derived.Test.YtmhgahkainmbkaaAllocOnceP
import Derived.Deep.LoopGhost
import Derived.Deep.RegionHeld
import Derived.Deep.RegionHeld3
namespace Go.Proofs.Ytmhgahkainmbkaa
open Go.RowKit Go.ChangeShapes Go.WideShapes
set_option linter.unusedVariables false
set_option linter.unusedSimpArgs false

def fillC (c : UInt8) (k : Nat) : Array Value := ((List.replicate k c).map bv ++ List.replicate (128 - k) (Value.int .u8 0)).toArray
theorem fillC_at (c : UInt8) (k : Nat) (h : k < 128) : (fillC c k)[k]? = some (.int .u8 0) := by
  obtain ⟨m, hm⟩ : ∃ m, 128 - k = m + 1 := ⟨127 - k, by omega⟩
  simp [fillC, List.getElem?_append, hm]
theorem fillC_set (c : UInt8) (k : Nat) (h : k < 128) : (fillC c k).setIfInBounds k (bv c) = fillC c (k + 1) := by
  obtain ⟨m, hm⟩ : ∃ m, 128 - k = m + 1 := ⟨127 - k, by omega⟩
  unfold fillC
  rw [hm, show 128 - (k + 1) = m by omega]
  apply Array.ext'
  rw [List.replicate_succ' (n := k), List.map_append]
  simp [List.replicate_succ]
theorem fillC_all (c : UInt8) : fillC c 128 = ((fulls c).map bv).toArray := by simp [fillC, fulls]
theorem fillC_none (c : UInt8) : fillC c 0 = zbytes 128 := by simp [fillC, zbytes]
/-- A row of bools, made. -/
def boolV (l : List Bool) : Array Value := (l.map Value.bool).toArray
theorem make_bools_mark (n c : Value) : Instr.makeSlice 55 n c = MakeS 55 n c := rfl
theorem bool_info : (Try.prog.info? 4).map (fun i => (i.zero, i.size, i.bytes)) = some (some (.bool false), 1, 1) := by kernel_rfl
theorem make_bools (N : Nat) (hN : N ≤ 1024) (W : World) : Sem.run Try.prog (MakeS 55 (.int .i64 (N : Int)) (.int .i64 (N : Int))) W = .ok (.slice (some ⟨W.heap.size, 0, none⟩) N N) (W.alloc (.cells (boolV (List.replicate N false)) 4)) := by
  obtain ⟨i, hi, hz, hs, hb⟩ := info_parts bool_info
  have := run_make (P := Try.prog) W 55 4 i _ Try.underlying55 hi hz .i64 .i64 (N : Int) (N : Int) (by omega) (by omega) (by rw [hb]; omega) (by omega)
  rw [Int.toNat_natCast, hs] at this
  have hc : madeCells (Value.bool false).cells (N * 1) = boolV (List.replicate N false) := by
    unfold madeCells boolV
    apply Array.ext'
    simp [Value.cells, Nat.mod_one, List.map_const']
  rw [hc] at this
  exact this
theorem boolV_at {l : List Bool} {k : Nat} (h : k < l.length) : (boolV l)[k]? = some (.bool (l.getD k false)) := by
  simp [boolV, h]
theorem boolV_set (l : List Bool) (k : Nat) (b : Bool) : (boolV l).setIfInBounds k (.bool b) = boolV (l.set k b) := by
  apply Array.ext'
  simp [boolV]
theorem Bytes.slcOf {wi w' w2 : World} {g cap : Nat} {l : List UInt8} (h : Bytes wi w' g cap l) (e : w2.heap[g]? = w'.heap[g]?) : Slc w2 (g + 1) 1 (some ⟨g, 0, none⟩) 128 cap (l.map bv) := by
  obtain ⟨cur, h1, h2, h3⟩ := h.at_
  exact bytes_string (show Blk w2 g 5 cur from e.trans h1) h.len h.capOk.1 h.capOk.2 h2 h3
theorem Bytes.lt {wi w' : World} {g cap : Nat} {l : List UInt8} (h : Bytes wi w' g cap l) : g < w'.heap.size := by
  obtain ⟨cur, h1, _⟩ := h.at_
  exact h1.lt
/-- What the law keeps beside its space: a sector of one byte, a row of bools, a layout. -/
structure OnceM (w : Ground) (wi : World) (F : Nat → Prop) (p go gs pd ps n : Nat) (c : UInt8) (gd gg gy : Nat) (L : LogM) (D : DiskM) (gl : List Bool) : Prop where
  run : ARun w wi F p go gs pd ps n L D
  dirt : Blk wi gd 5 ((fulls c).map bv).toArray
  fd : ¬ Both F p go gs gd
  row : Blk wi gg 4 (boolV gl)
  fg : ¬ Both F p go gs gg
  new : ¬ w.may gg ∧ w.world.heap.size ≤ gg
  lay : Blk wi gy 24 (layCells n).toArray
  fy : ¬ Both F p go gs gy
section
variable {w : Ground} {wi wj : World} {p go gs pd ps n gd gg gy : Nat} {c : UInt8} {L L' : LogM} {F F' : Nat → Prop} {D D' : DiskM} {gl : List Bool}
theorem far_next {g : Nat} (hn : ¬ Both F p go gs g) (hlt : g < wi.heap.size) (k : Step wi wj (Both F p go gs) (Both F' p go gs)) : ¬ Both F' p go gs g := fun hb => by
  rcases k.next g hb with h1 | h1
  · exact hn h1
  · omega
theorem OnceM.next (h : OnceM w wi F p go gs pd ps n c gd gg gy L D gl) (k : ARun ⟨wi, Both F p go gs⟩ wj F' p go gs pd ps n L' D') : OnceM w wj F' p go gs pd ps n c gd gg gy L' D' gl :=
  ⟨h.run.back k, h.dirt.step k.log.run.kept h.fd, far_next h.fd h.dirt.lt k.log.run.kept, h.row.step k.log.run.kept h.fg, far_next h.fg h.row.lt k.log.run.kept, h.new, h.lay.step k.log.run.kept h.fy, far_next h.fy h.lay.lt k.log.run.kept⟩
theorem OnceM.free (h : OnceM w wi F p go gs pd ps n c gd gg gy L D gl) (hb : Below wi.heap.size wi wj) : OnceM w wj F p go gs pd ps n c gd gg gy L D gl :=
  ⟨h.run.free hb, h.dirt.below hb h.dirt.lt, h.fd, h.row.below hb h.row.lt, h.fg, h.new, h.lay.below hb h.lay.lt, h.fy⟩
theorem ARun.set1 (h : ARun w wi F p go gs pd ps n L D) {g : Nat} (hn : ¬ Both F p go gs g) (hps : ps ≠ g) (hw : w.may g ∨ w.world.heap.size ≤ g) (i : Nat) (v : Value) : ARun w (wi.setCell ⟨g, i, none⟩ v) F p go gs pd ps n L D := by
  have hs : Step wi (wi.setCell ⟨g, i, none⟩ v) (fun j => j = g) (fun j => j = g) := (Step.refl wi (fun j => j = g)).setCell (p := ⟨g, i, none⟩) (.inl rfl) _
  exact ⟨⟨h.log.run.other hs (fun j hj => by subst hj; exact hn) (fun j hj => by subst hj; exact hw), h.log.inv, h.log.armed, h.log.base, h.log.size, h.log.n64⟩, h.space.far (p := ⟨g, i, none⟩) hps _, h.far⟩
theorem OnceM.set (h : OnceM w wi F p go gs pd ps n c gd gg gy L D gl) (k : Nat) (b : Bool) : OnceM w (wi.setCell ⟨gg, k, none⟩ (.bool b)) F p go gs pd ps n c gd gg gy L D (gl.set k b) := by
  have hd : gd ≠ gg := h.dirt.ne_ h.row (by decide)
  have hy : gy ≠ gg := h.lay.ne_ h.row (by decide)
  have hps : ps ≠ gg := h.run.space.ne_ h.row (by decide)
  exact ⟨h.run.set1 h.fg hps (.inr h.new.2) k _,
    h.dirt.far (p := ⟨gg, k, none⟩) hd _, h.fd, by have := h.row.set_ k (.bool b); rwa [boolV_set] at this, h.fg, h.new, h.lay.far (p := ⟨gg, k, none⟩) hy _, h.fy⟩
theorem lay_cells2 {W : World} {g n : Nat} (h : Blk W g 24 (layCells n).toArray) : W.cell? ⟨g, 7, none⟩ = some (.int .i64 (lData n : Int)) := h.cell 7
theorem zsec_bit (k : Nat) : bitAt zsec k = false := by
  unfold bitAt zsec
  rw [List.getD_eq_getElem?_getD, List.getElem?_replicate]
  split <;> simp
theorem given_new {n : Nat} (h1 : 64 ≤ n) (h2 : n ≤ 1024) : Given n (mL n) (mD n) (List.replicate n false) ∧ freeN ((mL n).val (mD n) (lMap n)) (n - lData n) = n - lData n := by
  obtain ⟨_, _, _, _, _, hs, _, hv, _⟩ := made_all h1 h2
  rw [hv]
  refine ⟨⟨.inl hs, by simp, fun k hk => ?_⟩, freeN_none (fun i _ => zsec_bit i)⟩
  rw [hv, zsec_bit, List.getD_eq_getElem?_getD, List.getElem?_replicate]
  split <;> rfl
theorem zeros_conv (W : World) : (convert 39 9 (.slice (some ⟨W.heap.size, 0, none⟩) 128 128)).run Try.prog (W.alloc (.cells (zbytes 128) 5)) = .ok (.string ⟨zsec.toArray⟩) (W.alloc (.cells (zbytes 128) 5)) :=
  convert_bytes (P := Try.prog) Try.underlying39 Try.underlying5 (bytes_slc (by simp [zsec]) (by rw [← zbytes_z]; exact Blk.new _ _ _)) 9 Try.underlying9
attribute [local go_sem ↓] load_layout_mark store_layout_mark alloc_layout_mark make_bytes_mark make_bools_mark
attribute [local go_sem] alloc_layout store_layout make128
set_option maxRecDepth 100000 in
set_option maxHeartbeats 4000000 in
theorem once_law (w : World) (n : Int) (hn : -9223372036854775808 ≤ n ∧ n ≤ 9223372036854775807) (c : UInt8) {A : Option Addr} {fm fc : Nat} {fl : List Int} (hl : fl.length = fm) (hS : Slc w w.heap.size 1 A fm fc (fl.map (Value.int .i64))) (hO : ∀ z ∈ fl, -9223372036854775808 ≤ z ∧ z ≤ 9223372036854775807) :
    Calls Try.prog 6 #[.int .i64 n, .int .u8 (c.toNat : Int), .slice A fm fc] w fun e w' => e = .returned (.bool true) ∧ Below w.heap.size w w' := by
  have hcm : fm ≤ 9223372036854775807 := by have h1 := hS.le; have h2 := hS.cmax; simp only [maxLen] at h2; omega
  obtain ⟨hm1, hm2⟩ := sizeN_le n
  have HSZ := Lib.hid (fun W : World => size_any n hn W)
  generalize sizeN n = K at *
  have HL := Lib.hid hl
  have HS := Lib.hid hS
  have HO := Lib.hid hO
  clear hn hl hS hO
  have hmk := fun W : World => make_bools K (by omega) W
  go_enter Try.func6, Try.ntmps6
  go_wp2_with fail
  refine (ashown_any w).mono ?_
  rintro e w1 ⟨rfl, hb1⟩
  have HB1 := Lib.hid hb1
  clear hb1
  go_wp2_with fail
  refine (HSZ.out _).mono ?_
  rintro e w2 ⟨rfl, rfl⟩
  go_wp2_with fail
  refine (amade_any hm1 (by omega) HB1.out).mono ?_
  rintro e w3 ⟨p, go, gs, pd, ps, F, rfl, hA⟩
  have HA := Lib.hid hA
  clear hA
  go_wp2_with fail
  refine (slayout_any HA.out.space).mono ?_
  rintro e w4 ⟨rfl, hb4⟩
  have hst := store_layout K w4
  obtain ⟨w5, hw5⟩ : ∃ w5, w5 = w4.alloc (.cells (layCells K).toArray 24) := ⟨_, rfl⟩
  obtain ⟨w6, hw6⟩ : ∃ w6, w6 = w5.alloc (.cells (boolV (List.replicate K false)) 4) := ⟨_, rfl⟩
  obtain ⟨w7, hw7⟩ : ∃ w7, w7 = w6.alloc (.cells (zbytes 128) 5) := ⟨_, rfl⟩
  have hb7 : Below w3.heap.size w3 w7 := by rw [hw7, hw6, hw5]; exact ((hb4.alloc hb4.size _).alloc (by simp only [World.size_alloc]; have := hb4.size; omega) _).alloc (by simp only [World.size_alloc]; have := hb4.size; omega) _
  have hY : Blk w7 w4.heap.size 24 (layCells K).toArray := by rw [hw7, hw6, hw5]; exact ((Blk.new _ _ _).alloc _).alloc _
  have hG : Blk w7 w5.heap.size 4 (boolV (List.replicate K false)) := by rw [hw7, hw6]; exact (Blk.new _ _ _).alloc _
  have hZ : Blk w7 w6.heap.size 5 (fillC c 0) := by rw [hw7, fillC_none]; exact Blk.new _ _ _
  have hsz5 : w5.heap.size = w4.heap.size + 1 := by rw [hw5]; simp
  have hsz6 : w6.heap.size = w4.heap.size + 1 + 1 := by rw [hw6, hw5]; simp
  have hs4 := hb4.size
  rw [hsz5] at hG
  rw [hsz6] at hZ
  have hfar : ∀ j, w4.heap.size ≤ j → ¬ Both F p go gs j := fun j hj hf => by have := HA.out.log.run.wal.both_lt _ hf; omega
  have hlow : w.heap.size ≤ w4.heap.size := Nat.le_trans HA.out.log.run.below.size hs4
  have H7 := Lib.hid (And.intro (HA.out.free hb7) (And.intro hY (And.intro hG (And.intro hZ (And.intro (hfar w4.heap.size (Nat.le_refl _)) (And.intro (hfar (w4.heap.size + 1) (by omega)) (And.intro (hfar (w4.heap.size + 1 + 1) (by omega)) (show w.heap.size ≤ w4.heap.size + 1 ∧ w.heap.size ≤ w4.heap.size + 1 + 1 by omega))))))))
  have HW7 := Lib.hid (show w7 = ((w4.alloc (.cells (layCells K).toArray 24)).alloc (.cells (boolV (List.replicate K false)) 4)).alloc (.cells (zbytes 128) 5) by rw [hw7, hw6, hw5])
  clear hb4 hw5 hw6 hw7 hb7 hY hG hZ hsz5 hsz6 hfar hlow hs4
  go_wp2_with fail
  rw [← HW7.out]
  clear HW7
  generalize hgd : w4.heap.size + 1 + 1 = gd at H7 ⊢
  generalize hgg : w4.heap.size + 1 = gg at H7 ⊢
  generalize hgy : w4.heap.size = gy at H7 ⊢
  have hFY := Lib.hid H7.out.2.2.2.2.1
  have hFG := Lib.hid H7.out.2.2.2.2.2.1
  have hFD := Lib.hid H7.out.2.2.2.2.2.2.1
  have HGW := Lib.hid H7.out.2.2.2.2.2.2.2
  clear hgd hgg hgy hst
  go_loopw [14] (fun i wr => ∃ k : Nat, k ≤ 128 ∧ i = .int .i64 (k : Int) ∧ ARun w wr F p go gs pd ps K (mL K) (mD K) ∧ Blk wr gy 24 (layCells K).toArray ∧ Blk wr gg 4 (boolV (List.replicate K false)) ∧ Blk wr gd 5 (fillC c k)) (fun i _ => 128 - (intOf i).toNat)
  case atStart => exact ⟨0, by omega, rfl, H7.out.1, H7.out.2.1, H7.out.2.2.1, H7.out.2.2.2.1⟩
  case round =>
    obtain ⟨k, hk, rfl, hA, hY, hG, hB⟩ := hrel
    by_cases hlt : k < 128
    · have hfz := hB.frozen k
      have hce : wr.cell? ⟨gd, k, none⟩ = some (.int .u8 0) := by rw [hB.cell, fillC_at c k hlt]
      have hne1 : gy ≠ gd := hY.ne_ hB (by decide)
      have hne2 : gg ≠ gd := hG.ne_ hB (by decide)
      have hne3 : ps ≠ gd := hA.space.ne_ hB (by decide)
      have hnx := And.intro (hA.set1 (hFD.out) hne3 (.inr HGW.out.2) k (.int .u8 (c.toNat : Int))) (And.intro (hY.far (p := ⟨gd, k, none⟩) hne1 (.int .u8 (c.toNat : Int))) (And.intro (hG.far (p := ⟨gd, k, none⟩) hne2 (.int .u8 (c.toNat : Int))) (hB.set_ k (.int .u8 (c.toNat : Int)))))
      have HNX := Lib.hid hnx
      clear hnx hA hY hG hB hne1 hne2 hne3
      go_wp2_with fail
      refine ⟨⟨k + 1, by omega, by go_num, HNX.out.1, HNX.out.2.1, HNX.out.2.2.1, ?_⟩, by simp [intOf]; omega⟩
      rw [← fillC_set c k hlt]
      exact HNX.out.2.2.2
    · obtain rfl : k = 128 := by omega
      rw [fillC_all] at hB
      have HM := Lib.hid (show OnceM w wr F p go gs pd ps K c gd gg gy (mL K) (mD K) (List.replicate K false) from ⟨hA, hB, hFD.out, hG, hFG.out, ⟨fun h => h, HGW.out.1⟩, hY, hFY.out⟩)
      have HGV := Lib.hid (given_new hm1 (by omega : K ≤ 1024))
      clear hA hY hG hB
      go_wp2_with fail
      refine (ablocks_any HM.out.run).mono ?_
      rintro e w8 ⟨rfl, hb8⟩
      have HM8 := Lib.hid (HM.out.free hb8)
      rw [HGV.out.2]
      clear hb8 HM
      go_wp2_with fail
      have hcnt : 1 ≤ K - lData K ∧ K - lData K ≤ 1024 ∧ lData K < K := by
        obtain ⟨f1, f2, f3, f4, f5, f6, f7, f8, f9⟩ := lay_facts hm1 (by omega : K ≤ 1024)
        omega
      obtain ⟨hc1, hc2, hc3⟩ := hcnt
      have HCN := Lib.hid (show (((K - lData K : Nat) : Int)) = (K : Int) - (lData K : Int) by omega)
      generalize hcn : K - lData K = cnt at hc1 hc2 HCN ⊢
      have HCT := Lib.hid hcn
      clear hcn
      go_loopw [17] (fun t wr => ∃ (j : Nat) (F' : Nat → Prop) (L' : LogM) (D' : DiskM) (gl : List Bool), j ≤ 2 ∧ t = .int .i64 (j : Int) ∧ OnceM w wr F' p go gs pd ps K c gd gg gy L' D' gl ∧ Given K L' D' gl) (fun t _ => 2 - (intOf t).toNat)
      case atStart => exact ⟨0, F, _, _, _, by omega, rfl, HM8.out, HGV.out.1⟩
      case round =>
        obtain ⟨j, F1, L1, D1, gl1, hj, rfl, hM1, hG1⟩ := hrel
        have HM1 := Lib.hid hM1
        have HG1 := Lib.hid hG1
        obtain ⟨wo, hwo⟩ : ∃ wo : World, wo = wr := ⟨_, rfl⟩
        rw [← hwo] at HM1 ⊢
        clear hM1 hG1 HM8 HGV hwo
        by_cases hj2 : j < 2
        · have hjb : decide ((j : Int) < 2) = true := by simpa using (show (j : Int) < 2 by omega)
          go_wp2_with fail
          go_loopg [] (falses gl1) (fun g wr => ∃ (F' : Nat → Prop) (L' : LogM) (D' : DiskM) (gl : List Bool), falses gl = g ∧ OnceM w wr F' p go gs pd ps K c gd gg gy L' D' gl ∧ Given K L' D' gl)
          case atStart => exact ⟨F1, L1, D1, gl1, rfl, HM1.out, HG1.out⟩
          case round =>
            obtain ⟨F2, L2, D2, gl2, hfa, hM2, hG2⟩ := hrel
            have HM2 := Lib.hid hM2
            have HG2 := Lib.hid hG2
            have HFA := Lib.hid hfa
            have HLD := Lib.hid hM2.run.log.laid
            have hbk := ablock_any hM2.run.here
            cases hle : leastN (L2.val D2 (lMap K)) (K - lData K) with
            | none =>
              rw [Given.noBlock hle] at hbk
              have HBK := Lib.hid hbk
              have HLE := Lib.hid hle
              clear hbk hle hM2 hG2 hfa
              go_wp2_with fail
              refine HBK.out.mono ?_
              rintro e w9 ⟨rfl, hA9⟩
              have HM9 := Lib.hid (HM2.out.next hA9)
              clear hA9
              go_wp2_with fail
              refine (ablocks_any HM9.out.run).mono ?_
              rintro e w10 ⟨rfl, hb10⟩
              have HM10 := Lib.hid (HM9.out.free hb10)
              rw [show (freeN (L2.val D2 (lMap K)) (K - lData K) : Int) = 0 by rw [leastN_none HLE.out]; rfl]
              clear hb10
              go_wp2_with fail
              go_loopw [24] (fun t wr => ∃ (k : Nat) (L' : LogM) (gl : List Bool), k ≤ 10 ∧ (k = 0 ∨ j = 0) ∧ t = .int .i64 (k : Int) ∧ OnceM w wr F2 p go gs pd ps K c gd gg gy L' D2 gl ∧ Given K L' D2 gl) (fun t _ => 10 - (intOf t).toNat)
              case atStart => exact ⟨0, L2, gl2, by omega, .inl rfl, rfl, HM10.out, HG2.out⟩
              case round =>
                obtain ⟨k, L3, gl3, hk, hkj, rfl, hM3, hG3⟩ := hrel
                have HM3 := Lib.hid hM3
                have HG3 := Lib.hid hG3
                obtain ⟨wt, hwt⟩ : ∃ wt : World, wt = wr := ⟨_, rfl⟩
                rw [← hwt] at HM3 ⊢
                clear hM3 hG3 hwt
                by_cases h1 : k < fm
                · by_cases h2 : k < 10
                  · by_cases h3 : j = 0
                    · have h3b : ((j : Int) == 0) = true := by simp [h3]
                      have H3 := Lib.hid h3
                      clear h3 hkj
                      obtain ⟨b, off, rfl, hbw, hcz⟩ := (HS.out.below HM3.out.run.log.run.below).at_ (by omega)
                      have hkl : k < fl.length := by rw [HL.out]; exact h1
                      have hcz1 := hcz k (.int .i64 fl[k]) (by rw [List.getElem?_map, List.getElem?_eq_getElem hkl]; rfl)
                      obtain ⟨hz1, hz2⟩ := HO.out fl[k] (List.getElem_mem hkl)
                      generalize fl[k] = z at hcz1 hz1 hz2
                      have hyc := lay_cells2 HM3.out.lay
                      obtain ⟨q, hq⟩ : ∃ q : Nat, (z < 0 ∧ -(z + 1) = (q : Int)) ∨ (0 ≤ z ∧ z = (q : Int)) := by
                        by_cases hneg : z < 0
                        · exact ⟨(-(z + 1)).toNat, .inl ⟨hneg, by omega⟩⟩
                        · exact ⟨z.toNat, .inr ⟨by omega, by omega⟩⟩
                      have hqm : q ≤ 9223372036854775807 := by omega
                      obtain ⟨r, hr⟩ : ∃ r, r = q % cnt := ⟨_, rfl⟩
                      have hrc : r < cnt := by rw [hr]; exact Nat.mod_lt _ (by omega)
                      have hjt : (q : Int).tmod (cnt : Int) = (r : Int) := by rw [Int.tmod_eq_emod_of_nonneg (by omega), hr]; rfl
                      have hc0 : ¬ ((cnt : Int) = 0) := by omega
                      obtain ⟨s, hs⟩ : ∃ s, s = lData K + r := ⟨_, rfl⟩
                      have hs1 : lData K ≤ s := by omega
                      have hs2 : s < K := by have := HCN.out; omega
                      have HSUM := Lib.hid (show (lData K : Int) + (r : Int) = (s : Int) by omega)
                      have HJT := Lib.hid hjt
                      have HQ := Lib.hid hq
                      have hhas : ∀ W, OnceM w W F2 p go gs pd ps K c gd gg gy L3 D2 gl3 → Calls Try.prog 23 #[.pointer (some ⟨ps, 0, none⟩), .int .i64 (s : Int)] W fun e w' => e = .returned (.tuple #[.bool (gl3.getD s false), .int .i64 0]) ∧ Below W.heap.size W w' := fun W h => by
                        have h1 := ahasBlock_any h.run (s : Int) (by omega)
                        rw [HG3.out.has HM3.out.run.log.laid hs1 hs2] at h1
                        exact h1
                      have hrc1 : ∀ W, OnceM w W F2 p go gs pd ps K c gd gg gy L3 D2 gl3 → Calls Try.prog 24 #[.pointer (some ⟨ps, 0, none⟩), .int .i64 (s : Int)] W fun e w' => e = .returned (.int .i64 (if gl3.getD s false then 0 else 48)) ∧ ARun ⟨W, Both F2 p go gs⟩ w' F2 p go gs pd ps K (freeR K L3 D2 (s : Int)).2 D2 := fun W h => by
                        have h1 := afreeBlock_any h.run.here (s : Int) (by omega)
                        rw [(HG3.out.free HM3.out.run.log.laid hs1 hs2).1] at h1
                        exact h1
                      obtain ⟨iu, hiu⟩ : ∃ iu, iu = gl3.getD s false := ⟨_, rfl⟩
                      rw [← hiu] at hhas hrc1
                      have HIU := Lib.hid hiu
                      have HHAS := Lib.hid hhas
                      have HFR := Lib.hid hrc1
                      have HGF := Lib.hid (HG3.out.free HM3.out.run.log.laid hs1 hs2).2
                      clear hcz hkl hr hs hq hhas hrc1 hiu hjt
                      rcases HQ.out with ⟨hneg, hqe⟩ | ⟨hneg, hqe⟩
                      · have HQE := Lib.hid hqe
                        clear hqe
                        go_upto_region 34 with (fail)
                        rw [HQE.out]
                        clear hneg hz1 hz2 hcz1
                        have hjt := HJT.out
                        go_region
                        all_goals
                          clear hjt
                          rw [HSUM.out]
                          have HM4 := Lib.hid (HM3.out.free (Below.refl wt.heap.size wt).drew)
                          go_wp2_with fail
                          refine (HHAS.out _ HM4.out).mono ?_
                          rintro e wu ⟨rfl, hbu⟩
                          have HM5 := Lib.hid (HM4.out.free hbu)
                          clear hbu
                          go_wp2_with fail
                          refine (HFR.out _ HM5.out).mono ?_
                          rintro e wv ⟨rfl, hA6⟩
                          have HM6 := Lib.hid (HM5.out.next hA6)
                          clear hA6
                          have hrc6 : wv.cell? ⟨gg, s, none⟩ = some (.bool iu) := by rw [HM6.out.row.cell, boolV_at (by rw [HG3.out.len]; exact hs2), HIU.out]
                          have hfz6 := HM6.out.row.frozen s
                          have HM7 := Lib.hid (HM6.out.set s false)
                          clear hyc
                          cases iu with
                          | true =>
                            rw [if_pos rfl]
                            go_wp2_with fail
                            refine ⟨⟨k + 1, _, _, by omega, .inr H3.out, by go_num, HM7.out, HGF.out⟩, by simp [intOf]; omega⟩
                          | false =>
                            rw [if_neg (by simp)]
                            go_wp2_with fail
                            refine ⟨⟨k + 1, _, _, by omega, .inr H3.out, by go_num, HM7.out, HGF.out⟩, by simp [intOf]; omega⟩
                      · subst hqe
                        go_upto_region 34 with (fail)
                        clear hneg hz1 hz2 hcz1
                        have hjt := HJT.out
                        go_region
                        all_goals
                          clear hjt
                          rw [HSUM.out]
                          have HM4 := Lib.hid (HM3.out.free (Below.refl wt.heap.size wt).drew)
                          go_wp2_with fail
                          refine (HHAS.out _ HM4.out).mono ?_
                          rintro e wu ⟨rfl, hbu⟩
                          have HM5 := Lib.hid (HM4.out.free hbu)
                          clear hbu
                          go_wp2_with fail
                          refine (HFR.out _ HM5.out).mono ?_
                          rintro e wv ⟨rfl, hA6⟩
                          have HM6 := Lib.hid (HM5.out.next hA6)
                          clear hA6
                          have hrc6 : wv.cell? ⟨gg, s, none⟩ = some (.bool iu) := by rw [HM6.out.row.cell, boolV_at (by rw [HG3.out.len]; exact hs2), HIU.out]
                          have hfz6 := HM6.out.row.frozen s
                          have HM7 := Lib.hid (HM6.out.set s false)
                          clear hyc
                          cases iu with
                          | true =>
                            rw [if_pos rfl]
                            go_wp2_with fail
                            refine ⟨⟨k + 1, _, _, by omega, .inr H3.out, by go_num, HM7.out, HGF.out⟩, by simp [intOf]; omega⟩
                          | false =>
                            rw [if_neg (by simp)]
                            go_wp2_with fail
                            refine ⟨⟨k + 1, _, _, by omega, .inr H3.out, by go_num, HM7.out, HGF.out⟩, by simp [intOf]; omega⟩
                    · have h3b : ((j : Int) == 0) = false := by simpa using h3
                      go_wp2_with fail
                      refine ⟨⟨j + 1, F2, L3, D2, gl3, by omega, by go_num, HM3.out, HG3.out⟩, by simp [intOf]; omega⟩
                  · go_wp2_with fail
                    refine ⟨⟨j + 1, F2, L3, D2, gl3, by omega, by go_num, HM3.out, HG3.out⟩, by simp [intOf]; omega⟩
                · go_wp2_with fail
                  refine ⟨⟨j + 1, F2, L3, D2, gl3, by omega, by go_num, HM3.out, HG3.out⟩, by simp [intOf]; omega⟩
            | some i =>
              obtain ⟨hi, hgf, b3, b4, _, b6, _⟩ := hG2.block HLD.out hle
              have hlaid := HLD.out
              have hrnd := fun (h2 : Laid K (blockR K L2 D2).2.2 D2) => hG2.round HLD.out hM2.run.log.armed hle rfl h2 (fulls c) (fulls_length c)
              obtain ⟨f1, f2, f3, f4, f5, f6, f7, f8, f9⟩ := lay_facts hm1 (by omega : K ≤ 1024)
              rw [b3, b4] at hbk
              obtain ⟨L3, hL3⟩ : ∃ L3, L3 = (blockR K L2 D2).2.2 := ⟨_, rfl⟩
              rw [← hL3] at hbk b6 hrnd
              obtain ⟨s, hs⟩ : ∃ s, s = lData K + i := ⟨_, rfl⟩
              rw [← hs] at hbk b6 hgf hrnd
              have hs1 : lData K ≤ s := by omega
              have hs2 : s < K := by omega
              have hs3 : lMap K ≤ s := by omega
              have hK : K ≤ 1024 := by omega
              have HBK := Lib.hid hbk
              have HRN := Lib.hid hrnd
              have HB6 := Lib.hid b6
              have HGF := Lib.hid hgf
              clear hbk hrnd b6 hgf hlaid hle hM2 hG2 hfa f1 f2 f3 f4 f5 f6 f7 f8 f9 hs hL3 b3 b4
              go_wp2_with fail
              refine HBK.out.mono ?_
              rintro e w9 ⟨rfl, hA9⟩
              have HM9 := Lib.hid (HM2.out.next hA9)
              have hyc := lay_cells2 HM9.out.lay
              have hrc : w9.cell? ⟨gg, s, none⟩ = some (.bool false) := by rw [HM9.out.row.cell, boolV_at (by rw [HG2.out.len]; exact hs2), HGF.out]
              have hfz := HM9.out.row.frozen s
              have HM10 := Lib.hid (HM9.out.set s true)
              clear hA9
              go_upto_region 22 with (fail)
              have hrd := HM10.out.run.log.readB (k := s) (.inr hs3) hs2
              rw [HB6.out] at hrd
              have HRD := Lib.hid hrd
              clear hrd
              go_wp2_with fail
              refine HRD.out.mono ?_
              rintro e wa ⟨g, cap, rfl, hby⟩
              have HM11 := Lib.hid (HM10.out.free hby.below)
              have hgn : ¬ Both F2 p go gs g := fun hf => by have h1 := HM10.out.run.log.run.wal.both_lt _ hf; have h2 := hby.new; omega
              have HGN := Lib.hid hgn
              have HGL := Lib.hid hby.lt
              have hcv : ∀ W, W.heap[g]? = wa.heap[g]? → (convert 39 9 (.slice (some ⟨g, 0, none⟩) 128 cap)).run Try.prog W = .ok (.string ⟨zsec.toArray⟩) W := fun W hb => convert_bytes (P := Try.prog) Try.underlying39 Try.underlying5 (hby.slcOf hb) 9 Try.underlying9
              have HCV := Lib.hid hcv
              have HCA := Lib.hid (fun o : Obj => (show (wa.alloc o).drew.heap[g]? = wa.heap[g]? from Below.heap_alloc wa o g hby.lt))
              have hzc : (convert 39 9 (.slice (some ⟨wa.heap.size, 0, none⟩) 128 128)).run Try.prog (wa.alloc (.cells (zbytes 128) 5)).drew = .ok (.string ⟨zsec.toArray⟩) (wa.alloc (.cells (zbytes 128) 5)).drew := zeros_conv wa.drew
              have HM12 := Lib.hid (HM11.out.free (((Below.refl wa.heap.size wa).alloc (Nat.le_refl _) (.cells (zbytes 128) 5)).drew))
              have hstg := HM12.out.run.here.stage (k := s) (.inr hs3) hs2 (z := (s : Int)) rfl (fulls_length c) (full_slc HM12.out.dirt)
              rw [(HRN.out HM12.out.run.log.laid).1] at hstg
              have HSTG := Lib.hid hstg
              have HG5 := Lib.hid (HRN.out HM12.out.run.log.laid).2
              have hzz : (!(zsec == zsec)) = false := by simp
              clear hcv hby hgn hstg
              go_wp2_with fail
              go_region_held (fun W => (convert 39 9 (.slice (some ⟨g, 0, none⟩) 128 cap)).run Try.prog W = .ok (.string ⟨zsec.toArray⟩) W) (first | exact HCV.out _ rfl | exact HCV.out _ (HCA.out _) | exact HCV.out _ (by assumption)) (first | (go_at_call 14; refine HSTG.out.mono ?_; rintro e wb ⟨rfl, hA12⟩; have HM13 := Lib.hid (HM12.out.next hA12); have hq : wb.heap[g]? = wa.heap[g]? := (hA12.log.run.kept.block g (Nat.lt_of_lt_of_le HGL.out (by simp)) HGN.out).trans (HCA.out _); have HSZB := Lib.hid hA12.log.run.kept.size; clear hA12) | (go_at_call 18; refine HM13.out.run.here.commitA.mono ?_; rintro e wc ⟨rfl, F5, hA13⟩; have HM14 := Lib.hid (HM13.out.next hA13); have hq2 : wc.heap[g]? = wa.heap[g]? := (hA13.log.run.kept.block g (Nat.lt_of_lt_of_le HGL.out (Nat.le_trans (by simp) HSZB.out)) HGN.out).trans hq; clear hA13))
              all_goals
                go_wp2_with fail
                have hfs := falses_set gl2 s (by rw [← HGF.out, List.getD_eq_getElem?_getD, List.getD_eq_getElem?_getD, List.getElem?_eq_getElem (by rw [HG2.out.len]; exact hs2)]; rfl)
                go_roundg (falses (gl2.set s true))
                case measure => have := HFA.out; omega
                case rel => exact ⟨F5, _, _, _, rfl, HM14.out, HG5.out⟩
        · obtain rfl : j = 2 := by omega
          have hyc := lay_cells2 HM1.out.lay
          have hfin : ((cnt : Int) == (K : Int) - (lData K : Int)) = true := by rw [← HCN.out]; simp
          go_wp2_with fail
          go_ret
          exact ⟨rfl, HM1.out.run.log.run.below⟩
end
set_option maxRecDepth 100000 in
theorem AllocOnce_walk {H : Type} {enc : TypeId × Value → H} (W : World) (base : Nat) (v0 v1 v2 : Value) (d0 d1 d2 : DataW H) (p0 p1 p2 : List MemPlace)
    (o0 : Value.okWide Try.prog W .any base 3 v0) (o1 : Value.okWide Try.prog W .any base 5 v1) (o2 : Value.okWide Try.prog W .any base 53 v2)
    (k0 : DataW.Trod enc Try.prog W 0 (fun _ => true) true 3 v0 d0 p0) (k1 : DataW.Trod enc Try.prog W 0 (fun _ => true) true 5 v1 d1 p1) (k2 : DataW.Trod enc Try.prog W 0 (fun _ => true) true 53 v2 d2 p2)
    (hsz : (DataW.weightsEach Try.prog [3, 5, 53] [d0, d1, d2]).all (· ≤ reachBytes) = true) :
    Calls Try.prog 6 #[v0, v1, v2] W fun e w' => e = .returned (.bool true) ∧ Below W.heap.size W w' := by
  obtain ⟨x, rfl, rfl, rfl, wx⟩ := open_int Try.underlying3 o0 k0
  obtain ⟨z, rfl, rfl, rfl, wz⟩ := open_int Try.underlying5 o1 k1
  obtain ⟨c, rfl⟩ := u8_of_wf wz
  obtain ⟨A, m, cp, l, rfl, hS, hO, _⟩ := open_nums o2 k2
  exact once_law W x (int_wf wx) c (by have := hS.len; simpa using this) hS hO
end Go.Proofs.Ytmhgahkainmbkaa
