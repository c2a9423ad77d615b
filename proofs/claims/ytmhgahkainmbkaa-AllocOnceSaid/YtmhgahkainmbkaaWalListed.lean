/- The walk of listed. -/
import Derived.Test.YtmhgahkainmbkaaWalMark
namespace Go.Proofs.Ytmhgahkainmbkaa
open Go.RowKit
set_option linter.unusedVariables false
set_option linter.unusedSimpArgs false

def nv (h : Nat) : Value := .int .i64 (h : Int)
def listHead (hs : List Nat) : List UInt8 := le 2 hs.length ++ hs.flatMap (le 2)
/-- A list's bytes. -/
def listB (hs : List Nat) : List UInt8 := pad (listHead hs)
theorem flatMap_le (hs : List Nat) : (hs.flatMap (le 2)).length = 2 * hs.length := by
  induction hs with
  | nil => rfl
  | cons h hs ih => simp [List.flatMap_cons, le_length, ih]; omega
theorem listHead_length (hs : List Nat) : (listHead hs).length = 2 + 2 * hs.length := by simp only [listHead, List.length_append, le_length, flatMap_le]
theorem listB_length {hs : List Nat} (h : hs.length ≤ 60) : (listB hs).length = 128 := pad_length (by rw [listHead_length]; omega)
theorem Slc.nat {w : World} {B : Nat} {A : Option Addr} {n c : Nat} {l : List Nat} (h : Slc w B 1 A n c (l.map nv)) {k : Nat} (hk : k < n) :
    ∃ b off, A = some ⟨b, off, none⟩ ∧ b < B ∧ ∃ hl : k < l.length, w.cell? ⟨b, off + k, none⟩ = some (.int .i64 (l[k] : Int)) := by
  obtain ⟨b, off, e, hb, hc⟩ := h.at_ (by omega)
  have hl : k < l.length := by have := h.len; simp at this; omega
  exact ⟨b, off, e, hb, hl, hc k _ (by simp [nv, List.getElem?_map, List.getElem?_eq_getElem hl])⟩

def SliceAtS (ty : TypeId) (x : Value) (lo hi mx : Option Value) : Sem Value := Instr.sliceAt ty x lo hi mx
theorem sliceAt_mark (x lo hi : Value) : Instr.sliceAt 80 x (some lo) (some hi) none = SliceAtS 80 x (some lo) (some hi) none := rfl
theorem SliceAtS.both {P : Program} {ty e : TypeId} {n : Nat} (hu : P.underlying ty = some (.array n e)) (hs : (P.info? e).map (·.size) = some 1) {g lo hi : Nat} {z1 z2 : Int} (h1 : z1 = (lo : Int)) (h2 : z2 = (hi : Int)) (hlo : lo ≤ hi) (hhi : hi ≤ n) (hlt : lo < n) (w : World) :
    (SliceAtS ty (.pointer (some ⟨g, 0, none⟩)) (some (.int .i64 z1)) (some (.int .i64 z2)) none).run P w = .ok (.slice (some ⟨g, lo, none⟩) (hi - lo) (n - lo)) w := by
  subst h1 h2
  cases hq : P.info? e with
  | none => simp [hq] at hs
  | some i =>
    have hi' : i.size = 1 := by simpa [hq] using hs
    have hne : ¬ n = lo := by omega
    unfold SliceAtS
    simp [Instr.sliceAt, Instr.sureAddr, Instr.sliceBounds, Instr.sliceBound, run_underlying hu, sizeOf, typeInfo, hq, hi', asIntOf, hlo, hhi, hne, addr_of_add]
section
attribute [local go_sem ↓] load_wsector_mark store_wsector_mark alloc_wsector_mark sliceAt_mark
attribute [local go_sem] alloc_wsector
set_option maxRecDepth 100000 in
set_option maxHeartbeats 2000000 in
theorem listed_any {A : Option Addr} {n c B : Nat} {hs : List Nat} (w : World) (hS : Slc w B 1 A n c (hs.map nv)) (hn : n ≤ 60) (hh : ∀ h ∈ hs, h < 65536) :
    Calls Try.prog 46 #[.slice A n c] w fun e' w' => e' = .returned (.agg ((listB hs).map bv).toArray) ∧ Below w.heap.size w w' := by
  have hlen : hs.length = n := by have := hS.len; simpa using this
  obtain ⟨W, hW⟩ : ∃ W, W = (w.alloc (.cells (zbytes 128) 80)).alloc (.cells (zbytes 128) 80) := ⟨_, rfl⟩
  have h0 : SecSt w W w.heap.size w.heap.size (w.heap.size + 1) [] := by
    refine ⟨?_, ?_, ?_⟩
    · subst hW; have := Blk.new (w.alloc (.cells (zbytes 128) 80)) 80 (zbytes 128); rwa [World.size_alloc] at this
    · subst hW; exact (Blk.new w _ _).alloc _
    · subst hW; exact ((Below.refl _ _).alloc (Nat.le_refl _) _).alloc (by simp) _
  have HS := Lib.hid (hS.lt (by decide))
  have HL := Lib.hid hlen
  have HH := Lib.hid hh
  have H0 := Lib.hid h0
  have HP := put_filled h0 (o := 0) (n := 2) (c := 128) (by omega) (by omega) rfl (by decide) (by decide) (by decide) n (by omega)
  rw [hW, List.nil_append] at HP
  have HP2 := Lib.hid HP
  clear hW h0 hlen hS hh HP
  go_enter Try.func46, Try.ntmps46
  go_wp2_with fail
  refine HP2.out.mono ?_
  rintro e' W1 ⟨rfl, h1⟩
  have H1 := Lib.hid h1
  clear h1
  go_wp2_with fail
  go_loopw [13] (fun i wr => ∃ k : Nat, k ≤ n ∧ i = .int .i64 (k : Int) ∧ SecSt w wr w.heap.size w.heap.size (w.heap.size + 1) (le 2 n ++ (hs.take k).flatMap (le 2))) (fun i _ => n - (intOf i).toNat)
  case atStart => exact ⟨0, by omega, rfl, by simpa using H1.out⟩
  case round =>
    obtain ⟨k, hk, rfl, hst⟩ := hrel
    by_cases hlt : k < n
    · have hS2 := HS.out.below hst.below
      obtain ⟨b, off, rfl, hb, hl, hc⟩ := hS2.nat hlt
      have hhk := HH.out _ (List.getElem_mem hl)
      have hdl : (le 2 n ++ (hs.take k).flatMap (le 2)).length = 2 + 2 * k := by
        rw [List.length_append, le_length, flatMap_le, List.length_take, HL.out]; omega
      have htk : (hs.take (k + 1)).flatMap (le 2) = (hs.take k).flatMap (le 2) ++ le 2 hs[k] := by
        rw [List.take_succ_eq_append_getElem hl, List.flatMap_append]; simp
      have hput := put_filled hst (o := 2 + 2 * k) (n := 2) (c := 128 - (2 + 2 * k)) (by omega) (by omega) hdl.symm (by omega) (by omega) (by omega) hs[k] (by omega)
      rw [List.append_assoc, ← htk] at hput
      generalize hs[k] = x at *
      have HPUT := Lib.hid hput
      have hsl := fun W : World => SliceAtS.both (P := Try.prog) (g := w.heap.size + 1) (lo := 2 + 2 * k) (hi := 4 + 2 * k) (z1 := 2 + 2 * (k : Int)) (z2 := 4 + 2 * (k : Int)) u_wsector byte_size1 (by omega) (by omega) (by omega) (by omega) (by omega) W
      rw [show 4 + 2 * k - (2 + 2 * k) = 2 by omega] at hsl
      clear hput hS2 hst hdl htk hb
      go_wp2_with fail
      refine HPUT.out.mono ?_
      rintro e' W2 ⟨rfl, h2⟩
      have H2 := Lib.hid h2
      clear h2 hsl
      go_wp2_with fail
      exact ⟨⟨k + 1, by omega, by go_num, H2.out⟩, by simp [intOf]; omega⟩
    · obtain rfl : k = n := by omega
      have hfin : le 2 k ++ (hs.take k).flatMap (le 2) = listHead hs := by rw [List.take_of_length_le (by rw [HL.out]; exact Nat.le_refl _)]; unfold listHead; rw [HL.out]
      rw [hfin] at hst
      have hll : (listHead hs).length ≤ 128 := by rw [listHead_length, HL.out]; omega
      obtain ⟨f, hf⟩ : ∃ f, f = listB hs := ⟨_, rfl⟩
      have hfl : f.length = 128 := by rw [hf]; exact listB_length (by rw [HL.out]; exact hn)
      have hB7 : Blk wr (w.heap.size + 1) 80 (f.map bv).toArray := by
        have := hst.at_
        rw [filled_pad] at this
        rw [hf]; exact this
      have hld := LoadS.of_blk (P := Try.prog) (o := 0) (n := 128) hB7 u_wsector rfl i_wsector (by simp [hfl])
      rw [show (f.map bv).toArray.extract 0 (0 + 128) = (f.map bv).toArray by apply Array.ext'; simp only [Array.toList_extract, List.extract_eq_take_drop, List.drop_zero]; rw [List.take_of_length_le (by simp [hfl])]] at hld
      have hst2 := StoreS.of_blk (P := Try.prog) (o := 0) (ty := 80) (vs := (f.map bv).toArray) hst.res (by simp only [List.size_toArray, List.length_map, hfl]; exact i_wsector) (by simp [filled_size, hfl]) (fun v hv => bvs_one f v (by simpa using hv))
      generalize hrow : ((filled []).toList.take 0 ++ (f.map bv).toArray.toList ++ (filled []).toList.drop (0 + (f.map bv).toArray.toList.length)).toArray = row at hst2
      have hrowf : row = (f.map bv).toArray := by
        subst hrow
        apply Array.ext'
        simp [filled, hfl]
      rw [hrowf] at hst2
      obtain ⟨W8, hW8⟩ : ∃ W8, W8 = wr.setRow w.heap.size (f.map bv).toArray := ⟨_, rfl⟩
      rw [← hW8] at hst2
      have hb8 : Below w.heap.size w W8 := by rw [hW8]; exact below_setRow hst.below (Nat.le_refl _) _
      have hB8 : Blk W8 w.heap.size 80 (f.map bv).toArray := by rw [hW8]; exact hst.res.row _
      have HB8 := Lib.hid hB8
      have HF := Lib.hid hf
      have HFL := Lib.hid hfl
      clear hB7 hst hW8 hrowf hrow hB8 hf hfl hfin hll
      go_wp2_with fail
      exact bodyPost_ret (v := .agg (f.map bv).toArray) (results_row (t := 2) (g := w.heap.size) rfl rfl HB8.out u_wsector rfl (by simp only [List.size_toArray, List.length_map, HFL.out]; exact i_wsector)) rfl ⟨by rw [HF.out], hb8⟩
end
end Go.Proofs.Ytmhgahkainmbkaa
