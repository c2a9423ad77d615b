/- Small facts that the walk of activate.Acts needs. activate.empty and activate.may at the steps of the document's examples. -/
import Derived.Test.YtibndaianhlcaaaGreatDoorPart25
import Derived.Test.YtibndaianhlcaaaGreatDoorPart24
import Derived.Test.YtibndaianhlcaaaGreatDoorPart4
import Derived.Deep.DeepCutAuto
import Derived.Deep.CutBlock
namespace Go.Proofs.YtibndaianhlcaaaGreatDoor
open Go.RowKit
set_option linter.unusedVariables false

theorem rowT_unitA : RowT 24 59 4 := rowT_of Tryz.underlying24 unit_info rfl (by decide) (by decide) (by decide) (by decide)
theorem slice_mark_unitA (x : Value) (lo hi mx : Option Value) : Instr.slice 24 x lo hi mx = CutS 24 x lo hi mx := rfl
theorem filt_succA {α : Type} (p : α → Bool) (l : List α) {k : Nat} (hk : k < l.length) : (l.take (k + 1)).filter p = (l.take k).filter p ++ (if p l[k] then [l[k]] else []) := by
  rw [List.take_succ_eq_append_getElem hk, List.filter_append]
  congr 1
  by_cases h : p l[k] = true
  · simp [h]
  · simp [h]
end Go.Proofs.YtibndaianhlcaaaGreatDoor
namespace Go.Proofs.YtibndaianhlcaaaGreatDoor
open Go.RowKit Go.Sort Go.Shelf
set_option linter.unusedVariables false
set_option linter.unusedSimpArgs false

/-- No file, no unit: empty lists may lie anywhere. -/
def ev1 (A : Option Addr) (c : Nat) : EV := ⟨[], 0, [], A, 0, c⟩
def sv1 (A : Option Addr) (c : Nat) (A' : Option Addr) (c' : Nat) : SV := ⟨[], [], [], A, 0, c, [], A', 0, c'⟩
set_option maxRecDepth 100000 in
set_option maxHeartbeats 1000000 in
theorem emptyP_any {w : World} {eA : Option Addr} {ec : Nat} {uA : Option Addr} {uc : Nat} {uB : Option Addr} {ud : Nat} (kind : Int) (name : Txt) (hk : kind = 1 ∨ kind = 3 ∨ kind = 5) :
    Calls Tryz.prog 100 #[.agg (avArr ⟨kind, name, ev1 eA ec, sv1 uA uc uB ud⟩)] w fun e w' => e = .returned (.bool true) ∧ Below w.heap.size w w' := by
  have hb : Below w.heap.size w ((w.alloc (.cells (avArr ⟨kind, name, ev1 eA ec, sv1 uA uc uB ud⟩) 61)).alloc (.cells (svArr (sv1 uA uc uB ud)) 59)) := (bel_new _ _).alloc (by simp) _
  unfold avArr ev1 sv1 at hb ⊢
  unfold svArr at hb
  (try simp only at hb)
  rcases hk with rfl | rfl | rfl
  all_goals
    go_enter Tryz.func100, Tryz.ntmps100
    go_wp2_with (fail)
    go_ret
    exact ⟨rfl, hb⟩
set_option maxRecDepth 100000 in
set_option maxHeartbeats 1000000 in
theorem emptyU_any {w : World} {eA : Option Addr} {ec : Nat} (u : SV) :
    Calls Tryz.prog 100 #[.agg (avArr ⟨6, u.name, ev1 eA ec, u⟩)] w fun e w' => e = .returned (.bool true) ∧ Below w.heap.size w w' := by
  have hb : Below w.heap.size w ((w.alloc (.cells (avArr ⟨6, u.name, ev1 eA ec, u⟩) 61)).alloc (.cells (svArr u) 59)) := (bel_new _ _).alloc (by simp) _
  unfold avArr ev1 at hb ⊢
  unfold svArr at hb
  (try simp only at hb)
  go_enter Tryz.func100, Tryz.ntmps100
  go_wp2_with (fail)
  go_ret
  exact ⟨rfl, hb⟩
/-- Two lists of texts put together in a block of their own. -/
structure Both2 (W : World) (u : SV) (g1 c1 : Nat) (w1 : World) (A2 : Option Addr) (c2 : Nat) (w2 : World) : Prop where
  r1 : (Builtin.append_ #[23, 23] 23 #[.slice (some ⟨W.heap.size, 0, none⟩) 0 0, .slice u.A u.n u.c]).run Tryz.prog (W.alloc (.cells #[] 9)) = .ok (.slice (some ⟨g1, 0, none⟩) u.n c1) w1
  r2 : (Builtin.append_ #[23, 23] 23 #[.slice (some ⟨g1, 0, none⟩) u.n c1, .slice u.A2 u.n2 u.c2]).run Tryz.prog w1 = .ok (.slice A2 (u.n + u.n2) c2) w2
  own : w2.ownsRow W.heap.size 9 1 (.slice A2 (u.n + u.n2) c2) (u.n + u.n2) ((u.req ++ u.aft).map encStr)
  bel1 : Below W.heap.size W w1
  bel : Below W.heap.size W w2
theorem both2 {W : World} {B : Nat} (u : SV) (h1 : Slc W B 1 u.A u.n u.c (u.req.map encStr)) (h2 : Slc W B 1 u.A2 u.n2 u.c2 (u.aft.map encStr)) (hB : B ≤ W.heap.size) (hn : u.n ≤ 100000000 ∧ u.n2 ≤ 100000000) :
    ∃ g1 c1 w1 A2 c2 w2, Both2 W u g1 c1 w1 A2 c2 w2 := by
  obtain ⟨g1, c1, w1, S⟩ := strs_copy h1 hB (by omega)
  obtain ⟨i, hi, hz0, hz1, hz2⟩ := info_parts str_info
  have hge := S.ge
  obtain ⟨A2, c2, w2, r2, o2, g2, _⟩ := append_slc (P := Tryz.prog) w1 W.heap.size 23 23 _ i _ 1 16 Tryz.underlying23 hi hz0 hz1 hz2 rfl (by decide) _ u.n _ S.own B u.A2 u.n2 u.c2 (u.aft.map encStr) (h2.below (S.bel.mono hB)) (strs_one u.aft) (by unfold maxLen; omega) (by omega) S.bel.size
  rw [← List.map_append] at o2
  exact ⟨g1, c1, w1, A2, c2, w2, S.run, r2, o2, S.bel, grown_below S.bel S.own S.bel.size g2⟩
set_option maxRecDepth 100000 in
set_option maxHeartbeats 1000000 in
theorem mayP_any {w : World} {eA : Option Addr} {ec : Nat} {uA : Option Addr} {uc : Nat} {uB : Option Addr} {ud : Nat} (kind : Int) (name : Txt) (hk : kind = 1 ∨ kind = 3 ∨ kind = 5) (hl : name.length ≤ 1000000000) :
    Calls Tryz.prog 69 #[.agg (avArr ⟨kind, name, ev1 eA ec, sv1 uA uc uB ud⟩)] w fun e w' => e = .returned (.bool (nameB name)) ∧ Below w.heap.size w w' := by
  obtain ⟨W1, hW1⟩ : ∃ W1, W1 = w.alloc (.cells (avArr ⟨kind, name, ev1 eA ec, sv1 uA uc uB ud⟩) 61) := ⟨_, rfl⟩
  have hb1 : Below w.heap.size w W1 := by rw [hW1]; exact bel_new _ _
  have hG1 : Blk W1 w.heap.size 61 (avArr ⟨kind, name, ev1 eA ec, sv1 uA uc uB ud⟩) := by rw [hW1]; exact Blk.new _ _ _
  have hem := emptyP_any (w := W1) (eA := eA) (ec := ec) (uA := uA) (uc := uc) (uB := uB) (ud := ud) kind name hk
  have HK := Lib.hid (fun (W : World) (hW : Below W1.heap.size W1 W) => show W.cell? ⟨w.heap.size, 0, none⟩ = some (.int .i64 kind) ∧ W.cell? ⟨w.heap.size, 1, none⟩ = some (.string ⟨name.toArray⟩) from ⟨(hG1.below hW hG1.lt).cell 0, (hG1.below hW hG1.lt).cell 1⟩)
  have HN := Lib.hid (fun (W : World) => name_any ⟨name.toArray⟩ W (by rw [bsz_mk]; unfold maxLen; omega))
  have HB1 := Lib.hid hb1
  have HW1 := Lib.hid hW1
  rw [hW1] at hem
  unfold avArr ev1 sv1 at hem ⊢
  simp only at hem ⊢
  clear hb1 hG1 hW1
  rcases hk with rfl | rfl | rfl
  all_goals
    go_enter Tryz.func69, Tryz.ntmps69
    go_wp2_with (first
      | (go_at_call 100; refine hem.mono ?_; clear hem; rintro e2 w2 ⟨rfl, hb2⟩; have hb2' := (show Below W1.heap.size W1 w2 by rw [HW1.out]; exact hb2); obtain ⟨y0, y1⟩ := HK.out w2 hb2'; have hnm := HN.out w2; have HB2 := Lib.hid (HB1.out.trans (hb2'.mono HB1.out.size)); clear hb2 hb2')
      | (go_at_call 39; refine hnm.mono ?_; clear hnm; rintro e3 w3 ⟨rfl, hb3⟩))
    go_ret
    exact ⟨rfl, HB2.out.trans (hb3.mono HB2.out.size)⟩
theorem start_fresh {u : Srv} : doM newM (startA u) = if mayU u && u.req.all (hasU []) then (⟨[], [], [u], []⟩, 0) else (newM, 70) := start_new (U := []) rfl (by decide)
theorem mayU_both (u : Srv) : mayU ⟨u.name, u.start, [], u.req ++ u.aft⟩ = mayU u := by simp [mayU]
set_option maxRecDepth 100000 in
set_option maxHeartbeats 4000000 in
theorem mayU_any {w : World} {B : Nat} {eA : Option Addr} {ec : Nat} (u : SV) (h1 : Slc w B 1 u.A u.n u.c (u.req.map encStr)) (h2 : Slc w B 1 u.A2 u.n2 u.c2 (u.aft.map encStr)) (hB : B ≤ w.heap.size) (hs : SmallU u) :
    Calls Tryz.prog 69 #[.agg (avArr ⟨6, u.name, ev1 eA ec, u⟩)] w fun e w' => e = .returned (.bool (mayU u.srv)) ∧ Below w.heap.size w w' := by
  obtain ⟨W1, hW1⟩ : ∃ W1, W1 = w.alloc (.cells (avArr ⟨6, u.name, ev1 eA ec, u⟩) 61) := ⟨_, rfl⟩
  have hb1 : Below w.heap.size w W1 := by rw [hW1]; exact bel_new _ _
  have hG1 : Blk W1 w.heap.size 61 (avArr ⟨6, u.name, ev1 eA ec, u⟩) := by rw [hW1]; exact Blk.new _ _ _
  have hem := emptyU_any (w := W1) (eA := eA) (ec := ec) u
  have HK := Lib.hid (fun (W : World) (hW : Below W1.heap.size W1 W) => hG1.below hW hG1.lt)
  have HB1 := Lib.hid hb1
  have HW1 := Lib.hid hW1
  have H1 := Lib.hid h1
  have H2 := Lib.hid h2
  have HB := Lib.hid hB
  have HS := Lib.hid hs
  have HGL := Lib.hid hG1.lt
  rw [hW1] at hem
  obtain ⟨nm, st, rq, A, n, c, af, A2, n2, c2⟩ := u
  unfold avArr ev1 at hem HK ⊢
  simp only at hem HK ⊢
  clear hb1 hG1 hW1 h1 h2 hB hs
  go_enter Tryz.func69, Tryz.ntmps69
  go_upto_region 14 with (go_at_call 100; refine hem.mono ?_; clear hem; rintro e2 w2 ⟨rfl, hb2⟩; have hb2' := (show Below W1.heap.size W1 w2 by rw [HW1.out]; exact hb2); have hG2 := HK.out w2 hb2'; have y0 := hG2.cell 0; have y1 := hG2.cell 1; have y5 := hG2.cell 5; have y6 := hG2.cell 6; have y7 := hG2.cell 7; have y8 := hG2.cell 8; simp only [List.getElem?_toArray, List.getElem?_cons_zero, List.getElem?_cons_succ] at y0 y1 y5 y6 y7 y8; have HB2 := Lib.hid hb2'; clear hb2 hb2' hG2)
  have HZ := Lib.hid (show w.heap.size < w2.heap.size from Nat.lt_of_lt_of_le HGL.out HB2.out.size)
  have hwl : w.heap.size < w2.heap.size := HZ.out
  obtain ⟨W3, hW3⟩ : ∃ W3, W3 = (w2.alloc (.cells #[.string ⟨nm.toArray⟩, .string ⟨st.toArray⟩, .slice A n c, .slice A2 n2 c2] 59)).drew := ⟨_, rfl⟩
  have hb3 : Below w2.heap.size w2 W3 := by rw [hW3]; exact (bel_new _ _).drew
  have hz3 : W3.heap.size = w2.heap.size + 1 := by rw [hW3]; simp
  have hG3 : Blk W3 w2.heap.size 59 #[.string ⟨nm.toArray⟩, .string ⟨st.toArray⟩, .slice A n c, .slice A2 n2 c2] := by rw [hW3]; exact (Blk.new _ _ _).drew
  have hbw2 := HB1.out.trans (HB2.out.mono HB1.out.size)
  have hwb := Nat.le_trans HB.out hbw2.size
  obtain ⟨g1, c1, w4, A5, c5, w5, D⟩ := both2 (W := W3) ⟨nm, st, rq, A, n, c, af, A2, n2, c2⟩ (H1.out.below ((hbw2.mono HB.out).trans (hb3.mono hwb))) (H2.out.below ((hbw2.mono HB.out).trans (hb3.mono hwb))) (by omega) ⟨by have := HS.out.n; simp only at this ⊢; omega, by have := HS.out.n2; simp only at this ⊢; omega⟩
  have r1 := D.r1
  have r2 := D.r2
  have hG4 := hG3.below D.bel1 hG3.lt
  have hG5 := hG3.below D.bel hG3.lt
  have k42 := hG4.cell 2
  have k43 := hG4.cell 3
  have k52 := hG5.cell 2
  have k53 := hG5.cell 3
  have f52 := hG5.frozen 2
  have f53 := hG5.frozen 3
  simp only [List.getElem?_toArray, List.getElem?_cons_zero, List.getElem?_cons_succ] at k42 k43 k52 k53
  rw [hz3, hW3] at r1
  have HR1 : Hid ((Builtin.append_ #[23, 23] 23 #[.slice (some ⟨w2.heap.size + 1, 0, none⟩) 0 0, .slice A n c]).run Tryz.prog ((w2.alloc (.cells #[.string ⟨nm.toArray⟩, .string ⟨st.toArray⟩, .slice A n c, .slice A2 n2 c2] 59)).alloc (.cells #[] 9)).drew = .ok (.slice (some ⟨g1, 0, none⟩) n c1) w4) := r1
  have HR2 : Hid ((Builtin.append_ #[23, 23] 23 #[.slice (some ⟨g1, 0, none⟩) n c1, .slice A2 n2 c2]).run Tryz.prog w4 = .ok (.slice A5 (n + n2) c5) w5) := r2
  have HU6 : Hid (Blk ((w5.setCell ⟨w2.heap.size, 2, none⟩ (.slice none 0 0)).setCell ⟨w2.heap.size, 3, none⟩ (.slice A5 (n + n2) c5)) w2.heap.size 59 #[.string ⟨nm.toArray⟩, .string ⟨st.toArray⟩, .slice none 0 0, .slice A5 (n + n2) c5]) := (hG5.set_ 2 (.slice none 0 0)).set_ 3 (.slice A5 (n + n2) c5)
  have HB6 : Hid (Below W1.heap.size W1 ((w5.setCell ⟨w2.heap.size, 2, none⟩ (.slice none 0 0)).setCell ⟨w2.heap.size, 3, none⟩ (.slice A5 (n + n2) c5))) := by
    have e1 := HB2.out.trans ((hb3.trans (D.bel.mono hb3.size)).mono HB2.out.size)
    exact (e1.setCell (p := ⟨w2.heap.size, 2, none⟩) HB2.out.size _).setCell (p := ⟨w2.heap.size, 3, none⟩) HB2.out.size _
  have HS6 : Hid (Slc ((w5.setCell ⟨w2.heap.size, 2, none⟩ (.slice none 0 0)).setCell ⟨w2.heap.size, 3, none⟩ (.slice A5 (n + n2) c5)) ((w5.setCell ⟨w2.heap.size, 2, none⟩ (.slice none 0 0)).setCell ⟨w2.heap.size, 3, none⟩ (.slice A5 (n + n2) c5)).heap.size 1 A5 (n + n2) c5 ((rq ++ af).map encStr)) := by
    have e1 := own_slc_of D.own
    have e2 : ∀ x, A5 = some x → W3.heap.size ≤ x.block := fun x hx => (D.own.lt x.block (by rw [hx]; rfl)).1
    have e3 := (e1.apartB (w' := w5.setCell ⟨w2.heap.size, 2, none⟩ (.slice none 0 0)) (fun x hx => Below.heap_setCell _ _ _ _ (by have := e2 x hx; simp only; omega))).apartB (w' := (w5.setCell ⟨w2.heap.size, 2, none⟩ (.slice none 0 0)).setCell ⟨w2.heap.size, 3, none⟩ (.slice A5 (n + n2) c5)) (fun x hx => Below.heap_setCell _ _ _ _ (by have := e2 x hx; simp only; omega))
    exact e3.more (by simp [World.setCell])
  have HA6 := Lib.hid (show ∀ x, A5 = some x → w2.heap.size < x.block from fun x hx => by have := (D.own.lt x.block (by rw [hx]; rfl)).1; omega)
  clear D r1 r2 hG3 hG4 hG5 hb3 hz3 hW3 hbw2 hwb
  go_cut [] (fun wx => ∃ (A5 : Option Addr) (c5 : Nat), Blk wx w2.heap.size 59 #[.string ⟨nm.toArray⟩, .string ⟨st.toArray⟩, .slice none 0 0, .slice A5 (n + n2) c5] ∧ Slc wx wx.heap.size 1 A5 (n + n2) c5 ((rq ++ af).map encStr) ∧ Below W1.heap.size W1 wx)
  case first =>
    go_region_law (first
      | (refine step_append_at (by rfl) _ _ _ (by rfl) HR1.out (by with_reducible rfl) (by rfl) (by rfl) (by rfl) ?_)
      | (refine step_append_at (by rfl) _ _ _ (by rfl) HR2.out (by with_reducible rfl) (by rfl) (by rfl) (by rfl) ?_))
    all_goals go_wp2_with (fail)
    all_goals go_meet
    all_goals case rel => exact ⟨A5, c5, HU6.out, HS6.out, HB6.out⟩
  case rest =>
    obtain ⟨A6, c6, hG, hS, hb⟩ := hcut
    have hd := (Below.refl wc.heap.size wc).drew
    have HKW := Lib.hid (fun (W : World) (hW : Below wc.heap.size wc W) => show W.cell? ⟨w.heap.size, 1, none⟩ = some (.string ⟨nm.toArray⟩) ∧ W.cell? ⟨w2.heap.size, 0, none⟩ = some (.string ⟨nm.toArray⟩) ∧ W.cell? ⟨w2.heap.size, 1, none⟩ = some (.string ⟨st.toArray⟩) ∧ W.cell? ⟨w2.heap.size, 2, none⟩ = some (.slice none 0 0) ∧ W.cell? ⟨w2.heap.size, 3, none⟩ = some (.slice A6 (n + n2) c6) from by
      have e1 := HK.out W (hb.trans (hW.mono hb.size))
      have e2 := hG.below hW hG.lt
      exact ⟨e1.cell 1, e2.cell 0, e2.cell 1, e2.cell 2, e2.cell 3⟩)
    have hnew := new_any wc.drew
    have hsu := HS.out
    have hsa : SmallA ⟨6, nm, ev0, ⟨nm, st, [], none, 0, 0, rq ++ af, A6, n + n2, c6⟩⟩ := by
      have a1 := hsu.n
      have a2 := hsu.n2
      have a3 := hsu.name
      have a4 := hsu.start
      refine ⟨⟨by show 0 ≤ 1000000000; omega, by show 0 ≤ 1000000000; omega, by show n + n2 ≤ 1000000000; simp only at a1 a2; omega⟩, Nat.le_trans a3 (by decide), by show ([] : Txt).length ≤ _; simp, Nat.le_trans a4 (by decide), fun t ht => ?_⟩
      rcases List.mem_cons.1 ht with h9 | h9
      · rw [h9]; exact Nat.le_trans a3 (by decide)
      · exact Nat.le_trans (hsu.texts t (by simpa using h9)) (by decide)
    have HSA := Lib.hid hsa
    clear hsa
    have HDO := Lib.hid (fun (w7 : World) (hR : MRun wc.drew w7.heap.size w7 (fun k => k = wc.drew.heap.size) wc.drew.heap.size newM) => hR.do_ (a := ⟨6, nm, ev0, ⟨nm, st, [], none, 0, 0, rq ++ af, A6, n + n2, c6⟩⟩) (C := wc.heap.size) ⟨slc_none _ _ _, slc_none _ _ _, hS.below (hd.trans hR.bel)⟩ hR.bel.size HSA.out (apart_low (u := ⟨nm, st, [], none, 0, 0, rq ++ af, A6, n + n2, c6⟩) (slc_none wc wc.heap.size 1) hS (fun k hk => by rw [show k = wc.drew.heap.size from hk]; exact Nat.le_refl _)))
    have HBF := Lib.hid (show Below w.heap.size w wc from HB1.out.trans (hb.mono HB1.out.size))
    have HD := Lib.hid hd
    obtain ⟨k1, k2, k3, k4, k5⟩ := HKW.out _ hd
    have HRES := Lib.hid (show doM newM (⟨6, nm, ev0, ⟨nm, st, [], none, 0, 0, rq ++ af, A6, n + n2, c6⟩⟩ : AV).act = if mayU ⟨nm, st, rq, af⟩ = true then (⟨[], [], [⟨nm, st, [], rq ++ af⟩], []⟩, 0) else (newM, 70) by
      have e1 : (⟨6, nm, ev0, ⟨nm, st, [], none, 0, 0, rq ++ af, A6, n + n2, c6⟩⟩ : AV).act = startA ⟨nm, st, [], rq ++ af⟩ := rfl
      have e2 := mayU_both ⟨nm, st, rq, af⟩
      simp only at e2
      rw [e1, start_fresh, e2]
      simp)
    clear hd hG hS hb hsu
    have HSP := Lib.hid (show SmallP (⟨6, nm, ev0, ⟨nm, st, [], none, 0, 0, rq ++ af, A6, n + n2, c6⟩⟩ : AV).act from ⟨by show ([] : Txt).length ≤ _; simp, by show ([] : List Txt).length ≤ _; simp, by
      show (rq ++ af).length ≤ _
      have a1 := H1.out.len
      have a2 := H2.out.len
      have a3 := HS.out.n
      have a4 := HS.out.n2
      simp at a1 a2 a3 a4
      rw [List.length_append]
      omega⟩)
    obtain ⟨x, hx⟩ : ∃ x, x = mayU ⟨nm, st, rq, af⟩ := ⟨_, rfl⟩
    have HCODE := Lib.hid (show (doM newM (⟨6, nm, ev0, ⟨nm, st, [], none, 0, 0, rq ++ af, A6, n + n2, c6⟩⟩ : AV).act).2 = if x = true then 0 else 70 by rw [HRES.out, hx]; split <;> rfl)
    have HX := Lib.hid hx
    clear hx HRES
    unfold avArr ev0 at HDO
    simp only at HDO
    go_wp2_with (fail)
    go_region_law (first
      | (go_simp; go_at_call 20; refine hnew.mono ?_; clear hnew; rintro e7 w7 ⟨rfl, hm7, hb7⟩; have hR7 := mrun_start hm7 hb7; obtain ⟨m1, m2, m3, m4, m5⟩ := HKW.out w7 (HD.out.trans hb7); have hdo := HDO.out w7 hR7; have HR7 := Lib.hid hR7; clear hm7 hb7 hR7)
      | (go_simp; go_at_call 42; refine hdo.mono ?_; clear hdo; intro e8 w8 hq; obtain ⟨rfl, h8, -⟩ := HR7.out.did HSP.out hq; have HB8 := Lib.hid (HBF.out.trans ((HD.out.trans h8.bel).mono HBF.out.size)); clear hq h8; rw [HCODE.out]))
    all_goals
      cases x <;>
      (go_wp2_with (fail)
       go_ret
       exact ⟨congrArg (fun b => Ending.returned (Value.bool b)) HX.out, HB8.out⟩)
end Go.Proofs.YtibndaianhlcaaaGreatDoor
