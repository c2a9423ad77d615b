/- The walks of package wal's sectors: control, listed; may, cost. -/
import Derived.Test.YtmhgahkainmbkaaWalNum
import Derived.Test.YtmhgahkainmbkaaDisk7
namespace Go.Proofs.Ytmhgahkainmbkaa
open Go.RowKit
set_option linter.unusedVariables false
set_option linter.unusedSimpArgs false

/-- A result that is a row of cells. -/
theorem results_row {P : Program} {fn : Func} {t : Tmp} {ty T : TypeId} {d : TypeDesc} {g : Nat} {cs : Array Value} {fr : Nat × Nat} {w : World} {tmps : Array Value} (h : fn.results = #[.cell t ty]) (ht : tmps.getD t undef = .pointer (some ⟨g, 0, none⟩))
    (hb : w.heap[g]? = some (.cells cs T fr)) (hu : P.underlying ty = some d) (hd : d.isRow = true) (hi : (P.info? ty).map (·.size) = some cs.size) : (results fn tmps).run P w = .ok (.agg cs) w := by
  have hl := LoadS.of_blk (P := P) (o := 0) (n := cs.size) hb hu hd hi (by omega)
  rw [show cs.extract 0 (0 + cs.size) = cs by simp] at hl
  unfold LoadS at hl
  simp only [Instr.loadAt, Instr.sureAddr, Sem.run_bind, Sem.run_pure, Result.andThen_ok] at hl
  simp only [Array.getD_eq_getD_getElem?] at ht
  simp [results, h, ht, asAddr, hl]

theorem u_wsector : Try.prog.underlying 80 = some (.array 128 5) := by kernel_rfl
theorem i_wsector : (Try.prog.info? 80).map (·.size) = some 128 := by kernel_rfl
theorem load_wsector_mark (x : Value) : Instr.loadAt 80 x = LoadS 80 x := rfl
theorem store_wsector_mark (x v : Value) : Instr.storeAt 80 x v = StoreS 80 x v := rfl
theorem alloc_wsector_mark : Instr.alloc 80 true (.tuple #[]) = AllocS 80 := rfl
theorem alloc_wsector (w : World) : Sem.run Try.prog (AllocS 80) w = .ok (.pointer (some ⟨w.heap.size, 0, none⟩)) (w.alloc (.cells (zbytes 128) 80)) := by kernel_rfl

/-- copy of a string into a row. -/
theorem CopyS.str {P : Program} {w : World} {dT sT ty elem t : TypeId} {g o dLen dCap : Nat} {cur : Array Value} {s : ByteArray} {l : List UInt8}
    (hu : P.underlying dT = some (.slice elem)) (hs : (P.info? elem).map (·.size) = some 1) (hB : Blk w g t cur) (hl : s.data.toList = l) (hn : l.length ≤ dLen) (hfit : o + l.length ≤ cur.size) :
    (CopyS #[dT, sT] ty #[.slice (some ⟨g, o, none⟩) dLen dCap, .string s]).run P w = .ok (.int .i64 (l.length : Int)) (w.setRow g (laid cur o l)) := by
  have hst := run_storeCells_at P g o t (l.map bv) 0 cur w hB (by simpa using hfit) (bvs_one l)
  have hsz : s.size = l.length := by rw [← hl]; rfl
  cases hq : P.info? elem with
  | none => simp [hq] at hs
  | some i =>
    have hi : i.size = 1 := by simpa [hq] using hs
    have hex : (s.extract 0 (Nat.min s.size dLen)).data.map (fun b => Value.int .u8 (b.toNat : Int)) = (l.map bv).toArray := by
      rw [show Nat.min s.size dLen = s.size by rw [hsz]; exact Nat.min_eq_left hn]
      have : s.extract 0 s.size = s := ByteArray.extract_zero_size
      rw [this]
      apply Array.ext'
      rw [Array.toList_map, hl]
      rfl
    simp only [Nat.add_zero, List.length_map] at hst
    unfold CopyS
    simp only [Builtin.copy_, Builtin.lenOf, Builtin.firstCells, run_underlying hu, Sem.run_bind, Sem.run_pure, Result.andThen_ok, sizeOf, typeInfo, hq, hex, List.getElem?_toArray, List.getElem?_cons_zero, List.getElem?_cons_succ, hst, goInt]
    simp [hq, hi, hst, laid, hsz, show min l.length dLen = l.length from Nat.min_eq_left hn]

/-- A sector whose first bytes are there. -/
def filled (d : List UInt8) : Array Value := (d.map bv ++ List.replicate (128 - d.length) (Value.int .u8 0)).toArray
theorem filled_size {d : List UInt8} (h : d.length ≤ 128) : (filled d).size = 128 := by simp [filled]; omega
theorem filled_nil : filled [] = zbytes 128 := rfl
theorem laid_filled (d l : List UInt8) {o : Nat} (ho : o = d.length) (h : d.length + l.length ≤ 128) : laid (filled d) o l = filled (d ++ l) := by
  subst ho
  apply Array.ext'
  simp only [laid, filled]
  rw [List.take_left' (by simp), List.drop_append, List.drop_eq_nil_of_le (by simp)]
  simp only [List.length_map, List.map_append, List.nil_append, List.drop_replicate, List.length_append]
  rw [show 128 - d.length - (d.length + l.length - d.length) = 128 - (d.length + l.length) by omega]
def pad (d : List UInt8) : List UInt8 := d ++ List.replicate (128 - d.length) 0
theorem filled_pad (d : List UInt8) : filled d = ((pad d).map bv).toArray := by simp [filled, pad, bv]
theorem pad_length {d : List UInt8} (h : d.length ≤ 128) : (pad d).length = 128 := by simp [pad]; omega
theorem filled_slc {w : World} {g : Nat} {t : TypeId} {d : List UInt8} (h : Blk w g t (filled d)) (hd : d.length ≤ 128) {n c : Nat} (hn : n = d.length) (hc : c ≤ maxLen) (hnc : n ≤ c) : Slc w (g + 1) 1 (some ⟨g, 0, none⟩) n c (d.map bv) := by
  subst hn
  have := h.slc (sz := 1) (n := d.length) (c := c) (by rw [filled_size hd]; omega) hnc hc
  rw [Nat.mul_one] at this
  simpa [filled] using this

def magicB : List UInt8 := [98, 111, 111, 116, 106, 97, 99, 107]
def ctlHead (e u t : Nat) : List UInt8 := magicB ++ le 8 e ++ le 2 u ++ le 8 t
theorem ctlHead_length (e u t : Nat) : (ctlHead e u t).length = 26 := by simp [ctlHead, le_length, magicB]
/-- The control's bytes. -/
def ctl (e u t : Nat) : List UInt8 := pad (ctlHead e u t ++ le 8 (updAll begin64 (ctlHead e u t)).toNat)
theorem ctl_length (e u t : Nat) : (ctl e u t).length = 128 := pad_length (by simp [ctlHead_length, le_length])
theorem byte_size1 : (Try.prog.info? 5).map (·.size) = some 1 := by kernel_rfl

/-- A sector under way: block g holds its bytes so far, block g0 is for the result. -/
structure SecSt (w W : World) (B g0 g : Nat) (d : List UInt8) : Prop where
  at_ : Blk W g 80 (filled d)
  res : Blk W g0 80 (filled [])
  below : Below B w W
theorem put_filled {w W : World} {B g0 g : Nat} {d : List UInt8} (h : SecSt w W B g0 g d) (hg : B ≤ g) (hne : g0 ≠ g) {o n c : Nat} (ho : o = d.length) (hle : d.length + n ≤ 128) (hn : n ≤ c) (hc : c ≤ 128) (v : Nat) (hv : v < 18446744073709551616) :
    Calls Try.prog 75 #[.slice (some ⟨g, o, none⟩) n c, .int .u64 (v : Int)] W fun e w' => e = .returned (.tuple #[]) ∧ SecSt w w' B g0 g (d ++ le n v) := by
  refine (put_any W h.at_ (by rw [filled_size (by omega)]; omega) hn (Nat.le_trans hc (by decide)) v hv).mono ?_
  rintro e w' ⟨rfl, rfl⟩
  rw [laid_filled d (le n v) ho (by rw [le_length]; omega)]
  exact ⟨rfl, h.at_.row _, h.res.row_far hne _, below_setRow h.below hg _⟩

section
attribute [local go_sem ↓] load_wsector_mark store_wsector_mark alloc_wsector_mark copyS_mark
attribute [local go_sem] alloc_wsector

set_option maxRecDepth 100000 in
set_option maxHeartbeats 1000000 in
theorem control_any (e u t : Nat) (he : e < 18446744073709551616) (hu : u < 65536) (ht : t < 18446744073709551616) (w : World) :
    Calls Try.prog 64 #[.int .u64 (e : Int), .int .i64 (u : Int), .int .u64 (t : Int)] w fun e' w' => e' = .returned (.agg ((ctl e u t).map bv).toArray) ∧ Below w.heap.size w w' := by
  obtain ⟨W, hW⟩ : ∃ W, W = (w.alloc (.cells (zbytes 128) 80)).alloc (.cells (zbytes 128) 80) := ⟨_, rfl⟩
  have hb : Below w.heap.size w W := by subst hW; exact ((Below.refl _ _).alloc (Nat.le_refl _) _).alloc (by simp) _
  have hB0 : Blk W w.heap.size 80 (filled []) := by subst hW; exact (Blk.new w _ _).alloc _
  have hB1 : Blk W (w.heap.size + 1) 80 (filled []) := by subst hW; have := Blk.new (w.alloc (.cells (zbytes 128) 80)) 80 (zbytes 128); rwa [World.size_alloc] at this
  have hcopy := CopyS.str (P := Try.prog) (w := W) (dT := 39) (sT := 9) (ty := 3) (o := 0) (dLen := 128) (dCap := 128) (s := ⟨#[98, 111, 111, 116, 106, 97, 99, 107]⟩) (l := magicB) Try.underlying39 byte_size1 hB1 rfl (by decide) (by decide)
  rw [laid_filled [] magicB (o := 0) rfl (by decide), List.nil_append] at hcopy
  have hl8e := le_length 8 e
  have hl2u := le_length 2 u
  have hl8t := le_length 8 t
  obtain ⟨W1, hW1⟩ : ∃ W1, W1 = W.setRow (w.heap.size + 1) (filled magicB) := ⟨_, rfl⟩
  rw [← hW1, hW] at hcopy
  have h1 : SecSt w W1 w.heap.size w.heap.size (w.heap.size + 1) magicB := by
    subst hW1; exact ⟨hB1.row _, hB0.row_far (by omega) _, below_setRow hb (by omega) _⟩
  have L1 : (magicB).length = 8 := rfl
  have L2 : (magicB ++ le 8 e).length = 16 := by simp [hl8e, L1]
  have L3 : (magicB ++ le 8 e ++ le 2 u).length = 18 := by simp [hl8e, hl2u, L1]
  have L4 := ctlHead_length e u t
  have H1 := Lib.hid h1
  have HL1 := Lib.hid L1
  have HL2 := Lib.hid L2
  have HL3 := Lib.hid L3
  have HL4 := Lib.hid L4
  clear hW hW1 hb hB0 hB1 hl8e hl2u hl8t h1 L1 L2 L3 L4
  go_enter Try.func64, Try.ntmps64
  go_wp2_with fail
  refine (put_filled H1.out (by omega) (by omega) (by rw [HL1.out]) (by rw [HL1.out]; omega) (by omega) (by omega) e he).mono ?_
  rintro e' W2 ⟨rfl, h2⟩
  have H2 := Lib.hid h2
  clear h2
  go_wp2_with fail
  refine (put_filled H2.out (by omega) (by omega) (by rw [HL2.out]) (by rw [HL2.out]; omega) (by omega) (by omega) u (by omega)).mono ?_
  rintro e' W3 ⟨rfl, h3⟩
  have H3 := Lib.hid h3
  clear h3
  go_wp2_with fail
  refine (put_filled H3.out (by omega) (by omega) (by rw [HL3.out]) (by rw [HL3.out]; omega) (by omega) (by omega) t ht).mono ?_
  rintro e' W4 ⟨rfl, h4⟩
  have H4 := Lib.hid (show SecSt w W4 w.heap.size w.heap.size (w.heap.size + 1) (ctlHead e u t) from h4)
  clear h4
  go_wp2_with fail
  refine region_tail 3 (by kernel_rfl) (by kernel_rfl) ?_
  simp only [List.take_succ_cons, List.take_zero, List.drop_succ_cons, List.drop_zero]
  obtain ⟨W5, hW5⟩ : ∃ W5, W5 = W4.drew := ⟨_, rfl⟩
  have h5 : SecSt w W5 w.heap.size w.heap.size (w.heap.size + 1) (ctlHead e u t) := by rw [hW5]; exact ⟨H4.out.at_.drew, H4.out.res.drew, H4.out.below.drew⟩
  rw [← hW5]
  have hS := filled_slc h5.at_ (by rw [HL4.out]; omega) (n := 26) (c := 128) HL4.out.symm (by decide) (by omega)
  have H5 := Lib.hid h5
  have HS := Lib.hid hS
  clear hW5 h5 hS
  still_step
  still_step
  still_call ((sum_any _ _ _ _ _ W5 HS.out).mono fun _ _ h => ⟨h.1, h.2.symm⟩)
  refine wpStill_nil ?_
  go_wp2_with fail
  refine (put_filled H5.out (by omega) (by omega) (by rw [HL4.out]) (by rw [HL4.out]; omega) (by omega) (by omega) _ (UInt64.toNat_lt _)).mono ?_
  rintro e' W7 ⟨rfl, h7⟩
  obtain ⟨f, hf⟩ : ∃ f, f = ctl e u t := ⟨_, rfl⟩
  have hfl : f.length = 128 := by rw [hf]; exact ctl_length e u t
  have hB7 : Blk W7 (w.heap.size + 1) 80 (f.map bv).toArray := by
    have := h7.at_
    rw [filled_pad] at this
    rw [hf]; exact this
  have hld := LoadS.of_blk (P := Try.prog) (o := 0) (n := 128) hB7 u_wsector rfl i_wsector (by simp [hfl])
  rw [show (f.map bv).toArray.extract 0 (0 + 128) = (f.map bv).toArray by apply Array.ext'; simp only [Array.toList_extract, List.extract_eq_take_drop, List.drop_zero]; rw [List.take_of_length_le (by simp [hfl])]] at hld
  have hst := StoreS.of_blk (P := Try.prog) (o := 0) (ty := 80) (vs := (f.map bv).toArray) h7.res (by simp only [List.size_toArray, List.length_map, hfl]; exact i_wsector) (by simp [filled_size, hfl]) (fun v hv => bvs_one f v (by simpa using hv))
  generalize hrow : ((filled []).toList.take 0 ++ (f.map bv).toArray.toList ++ (filled []).toList.drop (0 + (f.map bv).toArray.toList.length)).toArray = row at hst
  have hrowf : row = (f.map bv).toArray := by
    subst hrow
    apply Array.ext'
    simp [filled, hfl]
  rw [hrowf] at hst
  obtain ⟨W8, hW8⟩ : ∃ W8, W8 = W7.setRow w.heap.size (f.map bv).toArray := ⟨_, rfl⟩
  rw [← hW8] at hst
  have hb8 : Below w.heap.size w W8 := by rw [hW8]; exact below_setRow h7.below (Nat.le_refl _) _
  have hB8 : Blk W8 w.heap.size 80 (f.map bv).toArray := by rw [hW8]; exact h7.res.row _
  have HB8 := Lib.hid hB8
  have HF := Lib.hid hf
  have HFL := Lib.hid hfl
  clear hB7 h7 hW8 hrowf hrow hB8 hf hfl
  go_wp2_with fail
  exact bodyPost_ret (v := .agg (f.map bv).toArray) (results_row (t := 6) (g := w.heap.size) rfl rfl HB8.out u_wsector rfl (by simp only [List.size_toArray, List.length_map, HFL.out]; exact i_wsector)) rfl ⟨by rw [HF.out], hb8⟩
end
end Go.Proofs.Ytmhgahkainmbkaa
