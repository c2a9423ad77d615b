/- tree.entry. -/
import Derived.Test.YtdhlklidenfbeaaGreatDoorParseF
namespace Go.Proofs.YtdhlklidenfbeaaGreatDoor
open Go.RowKit Go.Shelf
set_option linter.unusedVariables false
set_option linter.unusedSimpArgs false

set_option maxRecDepth 100000 in
set_option maxHeartbeats 4000000 in
theorem tentry_any {w : World} {B : Nat} {A : Option Addr} {n c : Nat} {b head : Txt} (h : TextIn w B A n c b) (hB : B ≤ w.heap.size) (hn : n ≤ 1000000000) (hh : head.length ≤ 1000000000) (hm : MaxOk w) (ha : AtoiOk w) :
    Calls Tryz.prog 41 #[.string ⟨head.toArray⟩, .slice A n c] w (EntryPost w B head b) := by
  have hb1 : Below w.heap.size w (w.alloc (.cells #[.string .empty, .int .i64 0, .slice none 0 0] 73)) := (Below.refl _ w).alloc (Nat.le_refl _) _
  have hS := split_words (w.alloc (.cells #[.string .empty, .int .i64 0, .slice none 0 0] 73)) head hh (hm.max _ hb1)
  rw [World.size_alloc] at hS
  have hb2 := hb1.alloc hb1.size (.cells ((words head).map encStr).toArray 9)
  have hG0 := (Blk.new w 73 #[.string .empty, .int .i64 0, .slice none 0 0]).alloc (.cells ((words head).map encStr).toArray 9)
  have hW0 := Blk.new (w.alloc (.cells #[.string .empty, .int .i64 0, .slice none 0 0] 73)) 9 ((words head).map encStr).toArray
  have ha2 := ha.below (hb2.mono (Nat.le_refl _))
  have hz2 : w.heap.size + 1 < ((w.alloc (.cells #[.string .empty, .int .i64 0, .slice none 0 0] 73)).alloc (.cells ((words head).map encStr).toArray 9)).heap.size := by simp
  have HB1 := Lib.hid hb1
  have H := Lib.hid h
  by_cases hw3 : (words head).length = 3
  case neg =>
    have HE := Lib.hid (entryR_no (b := b) hw3)
    obtain ⟨N, hN⟩ : ∃ N, N = (words head).length := ⟨_, rfl⟩
    rw [← hN] at hS hw3
    have k3 : ¬ (N : Int) = 3 := by omega
    have HS := Lib.hid hS
    have HG0 := Lib.hid hG0
    have HB2 := Lib.hid hb2
    clear hS hN h hm ha hb1 hG0 hb2 hW0 ha2 hz2
    go_enter Tryz.func41, Tryz.ntmps41
    go_wp2_with (go_at_call 34; refine HS.out.mono ?_; clear HS; rintro e w' ⟨rfl, rfl⟩)
    exact entry_fail HE HG0.out HB2.out rfl rfl rfl
  case pos =>
    obtain ⟨k, p, q, hw⟩ : ∃ k p q, words head = [k, p, q] := by
      generalize words head = l at hw3
      match l, hw3 with
      | [k, p, q], _ => exact ⟨k, p, q, rfl⟩
    have HW := Lib.hid hw
    rw [hw] at hS hb2 hG0 hW0 ha2 hz2
    simp only [List.map_cons, List.map_nil, encStr, List.length_cons, List.length_nil, World.size_alloc] at hS hb2 hG0 hW0 ha2 hz2
    generalize hW2 : (w.alloc (.cells #[.string .empty, .int .i64 0, .slice none 0 0] 73)).alloc (.cells #[.string ⟨k.toArray⟩, .string ⟨p.toArray⟩, .string ⟨q.toArray⟩] 9) = W2 at *
    have x0 := hG0.cell 0
    have x1 := hG0.cell 1
    have x2 := hG0.cell 2
    have xf0 := hG0.frozen 0
    have xf1 := hG0.frozen 1
    have xf2 := hG0.frozen 2
    have y0 := hW0.cell 0
    have y1 := hW0.cell 1
    have y2 := hW0.cell 2
    simp only [List.getElem?_toArray, List.getElem?_cons_zero, List.getElem?_cons_succ] at x0 x1 x2 y0 y1 y2
    have HS := Lib.hid hS
    have HG0 := Lib.hid hG0
    have HB2 := Lib.hid hb2
    have sz : (ByteArray.mk q.toArray).size = q.length := rfl
    by_cases hq : q.length ≤ 4
    case neg =>
      have HE := Lib.hid (entryR_long (b := b) hw (by omega))
      have k4 : ¬ (q.length : Int) ≤ 4 := by omega
      clear hS h hm ha hb1 hG0 hb2 hW0 ha2 hz2 hw hW2 hw3
      go_enter Tryz.func41, Tryz.ntmps41
      go_wp2_with (go_at_call 34; refine HS.out.mono ?_; clear HS; rintro e w' ⟨rfl, rfl⟩)
      exact entry_fail HE (blk_zero HG0.out) (below_zero HB2.out) rfl rfl rfl
    case pos =>
      have hz : w.heap.size + 1 < W2.heap.size := by rw [← hW2]; simp
      by_cases hv : ∃ v, Lib.atoiAll q = .ok v
      case neg =>
        have hbad : ∀ v, Lib.atoiAll q ≠ .ok v := fun v hv' => hv ⟨v, hv'⟩
        have HE := Lib.hid (entryR_bad (b := b) hw hbad)
        have HA := Lib.hid (atoi_bad hq ha2 hbad)
        have k4 : (q.length : Int) ≤ 4 := by omega
        clear hS h hm ha hb1 hG0 hb2 hW0 ha2 hz2 hw hW2 hw3 hv hbad
        go_enter Tryz.func41, Tryz.ntmps41
        go_wp2_with (first
          | (go_at_call 34; refine HS.out.mono ?_; clear HS; rintro e w' ⟨rfl, rfl⟩)
          | (go_at_call 36; refine HA.out.mono ?_; clear HA; rintro e w3 ⟨u, N, rfl, hb3⟩; have hG3 := HG0.out.below hb3 (by omega); have HB3 := Lib.hid (HB2.out.trans (hb3.mono (by omega))); have x0 := hG3.cell 0; have x1 := hG3.cell 1; have x2 := hG3.cell 2; have xf0 := hG3.frozen 0; have xf1 := hG3.frozen 1; have xf2 := hG3.frozen 2; simp only [List.getElem?_toArray, List.getElem?_cons_zero, List.getElem?_cons_succ] at x0 x1 x2; have HG3 := Lib.hid hG3; clear hG3 hb3))
        exact entry_fail HE (blk_zero HG3.out) (below_zero HB3.out) rfl rfl rfl
      case pos =>
        obtain ⟨v, hv⟩ := hv
        have hv0 := hv
        have ho := entryR_ok (b := b) hw hq hv
        have HA := Lib.hid (atoi_ok hq ha2 hv)
        have k4 : (q.length : Int) ≤ 4 := by omega
        have hbl := h.len
        clear hS hb1 hG0 hb2 hW0 ha2 hz2 hw hW2 hw3 hv
        by_cases hneg : v < 0
        case pos =>
          have HE := Lib.hid (ho.trans (if_pos (.inl hneg)))
          clear ho h hbl hm ha hv0
          go_enter Tryz.func41, Tryz.ntmps41
          go_wp2_with (first
            | (go_at_call 34; refine HS.out.mono ?_; clear HS; rintro e w' ⟨rfl, rfl⟩)
            | (go_at_call 36; refine HA.out.mono ?_; clear HA; rintro e w3 ⟨rfl, hb3⟩; have hG3 := HG0.out.below hb3 (by omega); have HB3 := Lib.hid (HB2.out.trans (hb3.mono (by omega))); have x0 := hG3.cell 0; have x1 := hG3.cell 1; have x2 := hG3.cell 2; have xf0 := hG3.frozen 0; have xf1 := hG3.frozen 1; have xf2 := hG3.frozen 2; simp only [List.getElem?_toArray, List.getElem?_cons_zero, List.getElem?_cons_succ] at x0 x1 x2; have HG3 := Lib.hid hG3; clear hG3 hb3))
          exact entry_fail HE (blk_zero HG3.out) (below_zero HB3.out) rfl rfl rfl
        case neg =>
        obtain ⟨j, rfl⟩ : ∃ j : Nat, v = (j : Int) := ⟨v.toNat, by omega⟩
        by_cases hj : j < n
        case neg =>
          have HE := Lib.hid (ho.trans (if_pos (.inr (.inl (by omega)))))
          have k5 : (n : Int) ≤ (j : Int) := by omega
          clear ho h hbl hm ha hv0
          go_enter Tryz.func41, Tryz.ntmps41
          go_wp2_with (first
            | (go_at_call 34; refine HS.out.mono ?_; clear HS; rintro e w' ⟨rfl, rfl⟩)
            | (go_at_call 36; refine HA.out.mono ?_; clear HA; rintro e w3 ⟨rfl, hb3⟩; have hG3 := HG0.out.below hb3 (by omega); have HB3 := Lib.hid (HB2.out.trans (hb3.mono (by omega))); have x0 := hG3.cell 0; have x1 := hG3.cell 1; have x2 := hG3.cell 2; have xf0 := hG3.frozen 0; have xf1 := hG3.frozen 1; have xf2 := hG3.frozen 2; simp only [List.getElem?_toArray, List.getElem?_cons_zero, List.getElem?_cons_succ] at x0 x1 x2; have HG3 := Lib.hid hG3; clear hG3 hb3))
          exact entry_fail HE (blk_zero HG3.out) (below_zero HB3.out) rfl rfl rfl
        case pos =>
        have k5 : (j : Int) < (n : Int) := by omega
        have k6 : (0 : Int) ≤ (j : Int) := by omega
        have hjb : j < b.length := by omega
        obtain ⟨bb, off, rfl, hbB, hjl, hcell⟩ := h.slc.byte hj
        have hx10 : b[(j : Int).toNat]? = some b[j] := by rw [Int.toNat_natCast]; exact List.getElem?_eq_getElem hjb
        by_cases hten : b[j] = 10
        case neg =>
          have HE := Lib.hid (ho.trans (if_pos (.inr (.inr (by rw [hx10]; simpa using hten)))))
          have kx : ¬ ((b[j].toNat : Int) = 10) := fun e => hten (UInt8.toNat_inj.1 (by simp; omega))
          generalize hX : (b[j].toNat : Int) = X at *
          have HBB := Lib.hid (show bb < w.heap.size by omega)
          have kx2 : (X == 10) = false := by rw [beq_eq_false_iff_ne]; exact kx
          have kx3 : (X != 10) = true := by simpa using kx
          clear ho h hbl hm ha hv0 hten hx10 hX
          go_enter Tryz.func41, Tryz.ntmps41
          go_wp2_with (first
            | (go_at_call 34; refine HS.out.mono ?_; clear HS; rintro e w' ⟨rfl, rfl⟩)
            | (go_at_call 36; refine HA.out.mono ?_; clear HA; rintro e w3 ⟨rfl, hb3⟩; have hG3 := HG0.out.below hb3 (by omega); have HB3 := Lib.hid (HB2.out.trans (hb3.mono (by omega))); have x0 := hG3.cell 0; have x1 := hG3.cell 1; have x2 := hG3.cell 2; have xf0 := hG3.frozen 0; have xf1 := hG3.frozen 1; have xf2 := hG3.frozen 2; simp only [List.getElem?_toArray, List.getElem?_cons_zero, List.getElem?_cons_succ] at x0 x1 x2; have HG3 := Lib.hid hG3; have hc3 := (HB3.out.cell (p := ⟨bb, off + j, none⟩) HBB.out).trans hcell; clear hG3 hb3))
          exact entry_fail HE (blk_zero HG3.out) (below_zero HB3.out) rfl rfl rfl
        case pos => exact entry_good h hB hn hh hm ha HW.out hq hv0 hj (fun _ => hten)
end Go.Proofs.YtdhlklidenfbeaaGreatDoor
