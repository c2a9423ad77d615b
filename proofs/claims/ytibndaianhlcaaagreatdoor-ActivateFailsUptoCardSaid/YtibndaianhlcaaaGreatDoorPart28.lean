/- activate.empty and activate.may at the steps of the document's examples. The walks of (*strings.Builder).copyCheck and WriteString at this dump: the dump's copyCheck has no panic of its own (it is cut), so that the shelf's contract does not fit. Contracts of the library laid at this dump. activate.head and activate.Text at steps that have no file. -/
import Derived.Test.YtibndaianhlcaaaGreatDoorPart20
import Derived.Test.YtibndaianhlcaaaGreatDoorPart27
import Derived.Deep.DeepCutAuto
import Derived.Deep.CutBlock
import Derived.Test.YtibndaianhlcaaaGreatDoorPart4
import Derived.Shelf.Strings.BuilderK
import Derived.Shelf.LaysM
import Derived.Shelf.LaysC
import Derived.Ground.GgwProg
import Derived.Ground.Names2Prog
import Derived.Ground.SlgnProg
import Derived.Ground.SlgfProg
import Derived.Test.YtibndaianhlcaaaGreatDoorProg
import Derived.Test.YtibndaianhlcaaaGreatDoorPart6
namespace Go.Proofs.YtibndaianhlcaaaGreatDoor
open Go.RowKit Go.Sort Go.Shelf
set_option linter.unusedVariables false
set_option linter.unusedSimpArgs false

/-- No file, no unit: empty lists may lie anywhere. -/
def ev1 (A : Option Addr) (c : Nat) : EV := ⟨[], 0, [], A, 0, c⟩
def sv1 (A : Option Addr) (c : Nat) (A' : Option Addr) (c' : Nat) : SV := ⟨[], [], [], A, 0, c, [], A', 0, c'⟩
set_option maxRecDepth 100000 in
set_option maxHeartbeats 1000000 in
theorem emptyP_any {w : World} {eA : Option Addr} {ec : Nat} {uA : Option Addr} {uc : Nat} {uB : Option Addr} {ud : Nat} (kind : Int) (name : Txt) (hk : kind = 1 ∨ kind = 3 ∨ kind = 5) :
    Calls Tryz.prog 100 #[.agg (avArr ⟨kind, name, ev1 eA ec, sv1 uA uc uB ud⟩)] w fun e w' => e = .returned (.bool true) ∧ Below w.heap.size w w' := by
  have hb : Below w.heap.size w ((w.alloc (.cells (avArr ⟨kind, name, ev1 eA ec, sv1 uA uc uB ud⟩) 61)).alloc (.cells (svArr (sv1 uA uc uB ud)) 59)) := (bel_new _ _).alloc (by simp) _
  unfold avArr ev1 sv1 at hb ⊢
  unfold svArr at hb
  (try simp only at hb)
  rcases hk with rfl | rfl | rfl
  all_goals
    go_enter Tryz.func100, Tryz.ntmps100
    go_wp2_with (fail)
    go_ret
    exact ⟨rfl, hb⟩
set_option maxRecDepth 100000 in
set_option maxHeartbeats 1000000 in
theorem emptyU_any {w : World} {eA : Option Addr} {ec : Nat} (u : SV) :
    Calls Tryz.prog 100 #[.agg (avArr ⟨6, u.name, ev1 eA ec, u⟩)] w fun e w' => e = .returned (.bool true) ∧ Below w.heap.size w w' := by
  have hb : Below w.heap.size w ((w.alloc (.cells (avArr ⟨6, u.name, ev1 eA ec, u⟩) 61)).alloc (.cells (svArr u) 59)) := (bel_new _ _).alloc (by simp) _
  unfold avArr ev1 at hb ⊢
  unfold svArr at hb
  (try simp only at hb)
  go_enter Tryz.func100, Tryz.ntmps100
  go_wp2_with (fail)
  go_ret
  exact ⟨rfl, hb⟩
/-- Two lists of texts put together in a block of their own. -/
structure Both2 (W : World) (u : SV) (g1 c1 : Nat) (w1 : World) (A2 : Option Addr) (c2 : Nat) (w2 : World) : Prop where
  r1 : (Builtin.append_ #[23, 23] 23 #[.slice (some ⟨W.heap.size, 0, none⟩) 0 0, .slice u.A u.n u.c]).run Tryz.prog (W.alloc (.cells #[] 9)) = .ok (.slice (some ⟨g1, 0, none⟩) u.n c1) w1
  r2 : (Builtin.append_ #[23, 23] 23 #[.slice (some ⟨g1, 0, none⟩) u.n c1, .slice u.A2 u.n2 u.c2]).run Tryz.prog w1 = .ok (.slice A2 (u.n + u.n2) c2) w2
  own : w2.ownsRow W.heap.size 9 1 (.slice A2 (u.n + u.n2) c2) (u.n + u.n2) ((u.req ++ u.aft).map encStr)
  bel1 : Below W.heap.size W w1
  bel : Below W.heap.size W w2
theorem both2 {W : World} {B : Nat} (u : SV) (h1 : Slc W B 1 u.A u.n u.c (u.req.map encStr)) (h2 : Slc W B 1 u.A2 u.n2 u.c2 (u.aft.map encStr)) (hB : B ≤ W.heap.size) (hn : u.n ≤ 100000000 ∧ u.n2 ≤ 100000000) :
    ∃ g1 c1 w1 A2 c2 w2, Both2 W u g1 c1 w1 A2 c2 w2 := by
  obtain ⟨g1, c1, w1, S⟩ := strs_copy h1 hB (by omega)
  obtain ⟨i, hi, hz0, hz1, hz2⟩ := info_parts str_info
  have hge := S.ge
  obtain ⟨A2, c2, w2, r2, o2, g2, _⟩ := append_slc (P := Tryz.prog) w1 W.heap.size 23 23 _ i _ 1 16 Tryz.underlying23 hi hz0 hz1 hz2 rfl (by decide) _ u.n _ S.own B u.A2 u.n2 u.c2 (u.aft.map encStr) (h2.below (S.bel.mono hB)) (strs_one u.aft) (by unfold maxLen; omega) (by omega) S.bel.size
  rw [← List.map_append] at o2
  exact ⟨g1, c1, w1, A2, c2, w2, S.run, r2, o2, S.bel, grown_below S.bel S.own S.bel.size g2⟩
set_option maxRecDepth 100000 in
set_option maxHeartbeats 1000000 in
theorem mayP_any {w : World} {eA : Option Addr} {ec : Nat} {uA : Option Addr} {uc : Nat} {uB : Option Addr} {ud : Nat} (kind : Int) (name : Txt) (hk : kind = 1 ∨ kind = 3 ∨ kind = 5) (hl : name.length ≤ 1000000000) :
    Calls Tryz.prog 69 #[.agg (avArr ⟨kind, name, ev1 eA ec, sv1 uA uc uB ud⟩)] w fun e w' => e = .returned (.bool (nameB name)) ∧ Below w.heap.size w w' := by
  obtain ⟨W1, hW1⟩ : ∃ W1, W1 = w.alloc (.cells (avArr ⟨kind, name, ev1 eA ec, sv1 uA uc uB ud⟩) 61) := ⟨_, rfl⟩
  have hb1 : Below w.heap.size w W1 := by rw [hW1]; exact bel_new _ _
  have hG1 : Blk W1 w.heap.size 61 (avArr ⟨kind, name, ev1 eA ec, sv1 uA uc uB ud⟩) := by rw [hW1]; exact Blk.new _ _ _
  have hem := emptyP_any (w := W1) (eA := eA) (ec := ec) (uA := uA) (uc := uc) (uB := uB) (ud := ud) kind name hk
  have HK := Lib.hid (fun (W : World) (hW : Below W1.heap.size W1 W) => show W.cell? ⟨w.heap.size, 0, none⟩ = some (.int .i64 kind) ∧ W.cell? ⟨w.heap.size, 1, none⟩ = some (.string ⟨name.toArray⟩) from ⟨(hG1.below hW hG1.lt).cell 0, (hG1.below hW hG1.lt).cell 1⟩)
  have HN := Lib.hid (fun (W : World) => name_any ⟨name.toArray⟩ W (by rw [bsz_mk]; unfold maxLen; omega))
  have HB1 := Lib.hid hb1
  have HW1 := Lib.hid hW1
  rw [hW1] at hem
  unfold avArr ev1 sv1 at hem ⊢
  simp only at hem ⊢
  clear hb1 hG1 hW1
  rcases hk with rfl | rfl | rfl
  all_goals
    go_enter Tryz.func69, Tryz.ntmps69
    go_wp2_with (first
      | (go_at_call 100; refine hem.mono ?_; clear hem; rintro e2 w2 ⟨rfl, hb2⟩; have hb2' := (show Below W1.heap.size W1 w2 by rw [HW1.out]; exact hb2); obtain ⟨y0, y1⟩ := HK.out w2 hb2'; have hnm := HN.out w2; have HB2 := Lib.hid (HB1.out.trans (hb2'.mono HB1.out.size)); clear hb2 hb2')
      | (go_at_call 39; refine hnm.mono ?_; clear hnm; rintro e3 w3 ⟨rfl, hb3⟩))
    go_ret
    exact ⟨rfl, HB2.out.trans (hb3.mono HB2.out.size)⟩
theorem start_fresh {u : Srv} : doM newM (startA u) = if mayU u && u.req.all (hasU []) then (⟨[], [], [u], []⟩, 0) else (newM, 70) := start_new (U := []) rfl (by decide)
theorem mayU_both (u : Srv) : mayU ⟨u.name, u.start, [], u.req ++ u.aft⟩ = mayU u := by simp [mayU]
set_option maxRecDepth 100000 in
set_option maxHeartbeats 4000000 in
theorem mayU_any {w : World} {B : Nat} {eA : Option Addr} {ec : Nat} (u : SV) (h1 : Slc w B 1 u.A u.n u.c (u.req.map encStr)) (h2 : Slc w B 1 u.A2 u.n2 u.c2 (u.aft.map encStr)) (hB : B ≤ w.heap.size) (hs : SmallU u) :
    Calls Tryz.prog 69 #[.agg (avArr ⟨6, u.name, ev1 eA ec, u⟩)] w fun e w' => e = .returned (.bool (mayU u.srv)) ∧ Below w.heap.size w w' := by
  obtain ⟨W1, hW1⟩ : ∃ W1, W1 = w.alloc (.cells (avArr ⟨6, u.name, ev1 eA ec, u⟩) 61) := ⟨_, rfl⟩
  have hb1 : Below w.heap.size w W1 := by rw [hW1]; exact bel_new _ _
  have hG1 : Blk W1 w.heap.size 61 (avArr ⟨6, u.name, ev1 eA ec, u⟩) := by rw [hW1]; exact Blk.new _ _ _
  have hem := emptyU_any (w := W1) (eA := eA) (ec := ec) u
  have HK := Lib.hid (fun (W : World) (hW : Below W1.heap.size W1 W) => hG1.below hW hG1.lt)
  have HB1 := Lib.hid hb1
  have HW1 := Lib.hid hW1
  have H1 := Lib.hid h1
  have H2 := Lib.hid h2
  have HB := Lib.hid hB
  have HS := Lib.hid hs
  have HGL := Lib.hid hG1.lt
  rw [hW1] at hem
  obtain ⟨nm, st, rq, A, n, c, af, A2, n2, c2⟩ := u
  unfold avArr ev1 at hem HK ⊢
  simp only at hem HK ⊢
  clear hb1 hG1 hW1 h1 h2 hB hs
  go_enter Tryz.func69, Tryz.ntmps69
  go_upto_region 14 with (go_at_call 100; refine hem.mono ?_; clear hem; rintro e2 w2 ⟨rfl, hb2⟩; have hb2' := (show Below W1.heap.size W1 w2 by rw [HW1.out]; exact hb2); have hG2 := HK.out w2 hb2'; have y0 := hG2.cell 0; have y1 := hG2.cell 1; have y5 := hG2.cell 5; have y6 := hG2.cell 6; have y7 := hG2.cell 7; have y8 := hG2.cell 8; simp only [List.getElem?_toArray, List.getElem?_cons_zero, List.getElem?_cons_succ] at y0 y1 y5 y6 y7 y8; have HB2 := Lib.hid hb2'; clear hb2 hb2' hG2)
  have HZ := Lib.hid (show w.heap.size < w2.heap.size from Nat.lt_of_lt_of_le HGL.out HB2.out.size)
  have hwl : w.heap.size < w2.heap.size := HZ.out
  obtain ⟨W3, hW3⟩ : ∃ W3, W3 = (w2.alloc (.cells #[.string ⟨nm.toArray⟩, .string ⟨st.toArray⟩, .slice A n c, .slice A2 n2 c2] 59)).drew := ⟨_, rfl⟩
  have hb3 : Below w2.heap.size w2 W3 := by rw [hW3]; exact (bel_new _ _).drew
  have hz3 : W3.heap.size = w2.heap.size + 1 := by rw [hW3]; simp
  have hG3 : Blk W3 w2.heap.size 59 #[.string ⟨nm.toArray⟩, .string ⟨st.toArray⟩, .slice A n c, .slice A2 n2 c2] := by rw [hW3]; exact (Blk.new _ _ _).drew
  have hbw2 := HB1.out.trans (HB2.out.mono HB1.out.size)
  have hwb := Nat.le_trans HB.out hbw2.size
  obtain ⟨g1, c1, w4, A5, c5, w5, D⟩ := both2 (W := W3) ⟨nm, st, rq, A, n, c, af, A2, n2, c2⟩ (H1.out.below ((hbw2.mono HB.out).trans (hb3.mono hwb))) (H2.out.below ((hbw2.mono HB.out).trans (hb3.mono hwb))) (by omega) ⟨by have := HS.out.n; simp only at this ⊢; omega, by have := HS.out.n2; simp only at this ⊢; omega⟩
  have r1 := D.r1
  have r2 := D.r2
  have hG4 := hG3.below D.bel1 hG3.lt
  have hG5 := hG3.below D.bel hG3.lt
  have k42 := hG4.cell 2
  have k43 := hG4.cell 3
  have k52 := hG5.cell 2
  have k53 := hG5.cell 3
  have f52 := hG5.frozen 2
  have f53 := hG5.frozen 3
  simp only [List.getElem?_toArray, List.getElem?_cons_zero, List.getElem?_cons_succ] at k42 k43 k52 k53
  rw [hz3, hW3] at r1
  have HR1 : Hid ((Builtin.append_ #[23, 23] 23 #[.slice (some ⟨w2.heap.size + 1, 0, none⟩) 0 0, .slice A n c]).run Tryz.prog ((w2.alloc (.cells #[.string ⟨nm.toArray⟩, .string ⟨st.toArray⟩, .slice A n c, .slice A2 n2 c2] 59)).alloc (.cells #[] 9)).drew = .ok (.slice (some ⟨g1, 0, none⟩) n c1) w4) := r1
  have HR2 : Hid ((Builtin.append_ #[23, 23] 23 #[.slice (some ⟨g1, 0, none⟩) n c1, .slice A2 n2 c2]).run Tryz.prog w4 = .ok (.slice A5 (n + n2) c5) w5) := r2
  have HU6 : Hid (Blk ((w5.setCell ⟨w2.heap.size, 2, none⟩ (.slice none 0 0)).setCell ⟨w2.heap.size, 3, none⟩ (.slice A5 (n + n2) c5)) w2.heap.size 59 #[.string ⟨nm.toArray⟩, .string ⟨st.toArray⟩, .slice none 0 0, .slice A5 (n + n2) c5]) := (hG5.set_ 2 (.slice none 0 0)).set_ 3 (.slice A5 (n + n2) c5)
  have HB6 : Hid (Below W1.heap.size W1 ((w5.setCell ⟨w2.heap.size, 2, none⟩ (.slice none 0 0)).setCell ⟨w2.heap.size, 3, none⟩ (.slice A5 (n + n2) c5))) := by
    have e1 := HB2.out.trans ((hb3.trans (D.bel.mono hb3.size)).mono HB2.out.size)
    exact (e1.setCell (p := ⟨w2.heap.size, 2, none⟩) HB2.out.size _).setCell (p := ⟨w2.heap.size, 3, none⟩) HB2.out.size _
  have HS6 : Hid (Slc ((w5.setCell ⟨w2.heap.size, 2, none⟩ (.slice none 0 0)).setCell ⟨w2.heap.size, 3, none⟩ (.slice A5 (n + n2) c5)) ((w5.setCell ⟨w2.heap.size, 2, none⟩ (.slice none 0 0)).setCell ⟨w2.heap.size, 3, none⟩ (.slice A5 (n + n2) c5)).heap.size 1 A5 (n + n2) c5 ((rq ++ af).map encStr)) := by
    have e1 := own_slc_of D.own
    have e2 : ∀ x, A5 = some x → W3.heap.size ≤ x.block := fun x hx => (D.own.lt x.block (by rw [hx]; rfl)).1
    have e3 := (e1.apartB (w' := w5.setCell ⟨w2.heap.size, 2, none⟩ (.slice none 0 0)) (fun x hx => Below.heap_setCell _ _ _ _ (by have := e2 x hx; simp only; omega))).apartB (w' := (w5.setCell ⟨w2.heap.size, 2, none⟩ (.slice none 0 0)).setCell ⟨w2.heap.size, 3, none⟩ (.slice A5 (n + n2) c5)) (fun x hx => Below.heap_setCell _ _ _ _ (by have := e2 x hx; simp only; omega))
    exact e3.more (by simp [World.setCell])
  have HA6 := Lib.hid (show ∀ x, A5 = some x → w2.heap.size < x.block from fun x hx => by have := (D.own.lt x.block (by rw [hx]; rfl)).1; omega)
  clear D r1 r2 hG3 hG4 hG5 hb3 hz3 hW3 hbw2 hwb
  go_cut [] (fun wx => ∃ (A5 : Option Addr) (c5 : Nat), Blk wx w2.heap.size 59 #[.string ⟨nm.toArray⟩, .string ⟨st.toArray⟩, .slice none 0 0, .slice A5 (n + n2) c5] ∧ Slc wx wx.heap.size 1 A5 (n + n2) c5 ((rq ++ af).map encStr) ∧ Below W1.heap.size W1 wx)
  case first =>
    go_region_law (first
      | (refine step_append_at (by rfl) _ _ _ (by rfl) HR1.out (by with_reducible rfl) (by rfl) (by rfl) (by rfl) ?_)
      | (refine step_append_at (by rfl) _ _ _ (by rfl) HR2.out (by with_reducible rfl) (by rfl) (by rfl) (by rfl) ?_))
    all_goals go_wp2_with (fail)
    all_goals go_meet
    all_goals case rel => exact ⟨A5, c5, HU6.out, HS6.out, HB6.out⟩
  case rest =>
    obtain ⟨A6, c6, hG, hS, hb⟩ := hcut
    have hd := (Below.refl wc.heap.size wc).drew
    have HKW := Lib.hid (fun (W : World) (hW : Below wc.heap.size wc W) => show W.cell? ⟨w.heap.size, 1, none⟩ = some (.string ⟨nm.toArray⟩) ∧ W.cell? ⟨w2.heap.size, 0, none⟩ = some (.string ⟨nm.toArray⟩) ∧ W.cell? ⟨w2.heap.size, 1, none⟩ = some (.string ⟨st.toArray⟩) ∧ W.cell? ⟨w2.heap.size, 2, none⟩ = some (.slice none 0 0) ∧ W.cell? ⟨w2.heap.size, 3, none⟩ = some (.slice A6 (n + n2) c6) from by
      have e1 := HK.out W (hb.trans (hW.mono hb.size))
      have e2 := hG.below hW hG.lt
      exact ⟨e1.cell 1, e2.cell 0, e2.cell 1, e2.cell 2, e2.cell 3⟩)
    have hnew := new_any wc.drew
    have hsu := HS.out
    have hsa : SmallA ⟨6, nm, ev0, ⟨nm, st, [], none, 0, 0, rq ++ af, A6, n + n2, c6⟩⟩ := by
      have a1 := hsu.n
      have a2 := hsu.n2
      have a3 := hsu.name
      have a4 := hsu.start
      refine ⟨⟨by show 0 ≤ 1000000000; omega, by show 0 ≤ 1000000000; omega, by show n + n2 ≤ 1000000000; simp only at a1 a2; omega⟩, Nat.le_trans a3 (by decide), by show ([] : Txt).length ≤ _; simp, Nat.le_trans a4 (by decide), fun t ht => ?_⟩
      rcases List.mem_cons.1 ht with h9 | h9
      · rw [h9]; exact Nat.le_trans a3 (by decide)
      · exact Nat.le_trans (hsu.texts t (by simpa using h9)) (by decide)
    have HSA := Lib.hid hsa
    clear hsa
    have HDO := Lib.hid (fun (w7 : World) (hR : MRun wc.drew w7.heap.size w7 (fun k => k = wc.drew.heap.size) wc.drew.heap.size newM) => hR.do_ (a := ⟨6, nm, ev0, ⟨nm, st, [], none, 0, 0, rq ++ af, A6, n + n2, c6⟩⟩) (C := wc.heap.size) ⟨slc_none _ _ _, slc_none _ _ _, hS.below (hd.trans hR.bel)⟩ hR.bel.size HSA.out (apart_low (u := ⟨nm, st, [], none, 0, 0, rq ++ af, A6, n + n2, c6⟩) (slc_none wc wc.heap.size 1) hS (fun k hk => by rw [show k = wc.drew.heap.size from hk]; exact Nat.le_refl _)))
    have HBF := Lib.hid (show Below w.heap.size w wc from HB1.out.trans (hb.mono HB1.out.size))
    have HD := Lib.hid hd
    obtain ⟨k1, k2, k3, k4, k5⟩ := HKW.out _ hd
    have HRES := Lib.hid (show doM newM (⟨6, nm, ev0, ⟨nm, st, [], none, 0, 0, rq ++ af, A6, n + n2, c6⟩⟩ : AV).act = if mayU ⟨nm, st, rq, af⟩ = true then (⟨[], [], [⟨nm, st, [], rq ++ af⟩], []⟩, 0) else (newM, 70) by
      have e1 : (⟨6, nm, ev0, ⟨nm, st, [], none, 0, 0, rq ++ af, A6, n + n2, c6⟩⟩ : AV).act = startA ⟨nm, st, [], rq ++ af⟩ := rfl
      have e2 := mayU_both ⟨nm, st, rq, af⟩
      simp only at e2
      rw [e1, start_fresh, e2]
      simp)
    clear hd hG hS hb hsu
    have HSP := Lib.hid (show SmallP (⟨6, nm, ev0, ⟨nm, st, [], none, 0, 0, rq ++ af, A6, n + n2, c6⟩⟩ : AV).act from ⟨by show ([] : Txt).length ≤ _; simp, by show ([] : List Txt).length ≤ _; simp, by
      show (rq ++ af).length ≤ _
      have a1 := H1.out.len
      have a2 := H2.out.len
      have a3 := HS.out.n
      have a4 := HS.out.n2
      simp at a1 a2 a3 a4
      rw [List.length_append]
      omega⟩)
    obtain ⟨x, hx⟩ : ∃ x, x = mayU ⟨nm, st, rq, af⟩ := ⟨_, rfl⟩
    have HCODE := Lib.hid (show (doM newM (⟨6, nm, ev0, ⟨nm, st, [], none, 0, 0, rq ++ af, A6, n + n2, c6⟩⟩ : AV).act).2 = if x = true then 0 else 70 by rw [HRES.out, hx]; split <;> rfl)
    have HX := Lib.hid hx
    clear hx HRES
    unfold avArr ev0 at HDO
    simp only at HDO
    go_wp2_with (fail)
    go_region_law (first
      | (go_simp; go_at_call 20; refine hnew.mono ?_; clear hnew; rintro e7 w7 ⟨rfl, hm7, hb7⟩; have hR7 := mrun_start hm7 hb7; obtain ⟨m1, m2, m3, m4, m5⟩ := HKW.out w7 (HD.out.trans hb7); have hdo := HDO.out w7 hR7; have HR7 := Lib.hid hR7; clear hm7 hb7 hR7)
      | (go_simp; go_at_call 42; refine hdo.mono ?_; clear hdo; intro e8 w8 hq; obtain ⟨rfl, h8, -⟩ := HR7.out.did HSP.out hq; have HB8 := Lib.hid (HBF.out.trans ((HD.out.trans h8.bel).mono HBF.out.size)); clear hq h8; rw [HCODE.out]))
    all_goals
      cases x <;>
      (go_wp2_with (fail)
       go_ret
       exact ⟨congrArg (fun b => Ending.returned (Value.bool b)) HX.out, HB8.out⟩)
end Go.Proofs.YtibndaianhlcaaaGreatDoor
namespace Go.Proofs.YtibndaianhlcaaaGreatDoor
open Go.RowKit
set_option linter.unusedVariables false
set_option linter.unusedSimpArgs false

theorem size_builder : (Tryz.prog.info? 113).map (·.size) = some 2 := by kernel_rfl
theorem lies_builder : liesAt Tryz.prog Tryz.prog.depth 113 (2 / Tryz.prog.cellsOf 113) 0 113 1 = true := by kernel_rfl
set_option maxRecDepth 100000 in
theorem check_any (B b : Nat) (bs : List Value) (w : World) (h : Lib.IsBuilderF 113 5 B b bs w) :
    Calls Tryz.prog 101 #[.pointer (some ⟨b, 0, none⟩)] w fun e w' => e = .returned (.tuple #[]) ∧ Lib.BuilderAtF 113 5 B b (.pointer (some ⟨b, 0, none⟩)) bs w' ∧ Below B w w' ∧ Lib.OthersKept 5 (some b) w w' := by
  rcases h with h | h
  · have c0 := h.cell0
    have f0 := h.frozen0
    have hs := h.shape
    have H := Lib.hid h
    clear h
    go_enter Tryz.func101, Tryz.ntmps101
    obtain ⟨j, hj, hjs⟩ := Option.map_eq_some_iff.1 size_builder
    go_wp2
    rw [Lib.run_to_unsafe w ⟨b, 0, none⟩ Tryz.underlying111 Tryz.underlying153 hj (by rw [hjs]; decide) hs (Nat.zero_lt_succ 1)]
    simp only [Result.andThen]
    rw [Oper.upon_value]
    go_wp2
    rw [run_callFunc_extern Tryz.func125 (by kernel_rfl) (by kernel_rfl) (by kernel_rfl) (e := Extern.AbiNoEscape.same) (by kernel_rfl)]
    rw [Lib.run_noEscape]
    simp only [Result.andThen]
    rw [Oper.upon_value]
    go_wp2
    rw [Lib.run_from_unsafe w ⟨b, 0, none⟩ Tryz.underlying153 Tryz.underlying111 hj hs lies_builder]
    simp only [Result.andThen]
    rw [Oper.upon_value]
    go_wp2
    go_end0
    exact ⟨rfl, H.out.used _, (Below.refl B w).setCell (p := ⟨b, 0, none⟩) H.out.1 _, (Lib.OthersKept.refl _ _ w).setCell ⟨b, 0, none⟩ rfl _⟩
  · have c0 := h.cell0
    have hs := h.shape
    have hlt := h.lt
    have H := Lib.hid h
    clear h
    go_enter Tryz.func101, Tryz.ntmps101
    obtain ⟨j, hj, _⟩ := Option.map_eq_some_iff.1 size_builder
    go_wp2
    rw [Lib.run_neq_ptr_same w _ Tryz.underlying111 hj]
    go_wp2
    go_end0
    exact ⟨rfl, H.out, Below.refl B _, Lib.OthersKept.refl _ _ _⟩

theorem byte_ne_builder : 113 ≠ 5 := by decide
set_option maxRecDepth 100000 in
set_option maxHeartbeats 2000000 in
/-- (*strings.Builder).WriteString: the bytes stand behind those that were there. -/
theorem ws_any (B b : Nat) (bs : List Value) (s : ByteArray) (w : World) (h : Lib.IsBuilderF 113 5 B b bs w) (hlen : bs.length + s.size ≤ 140737488355328) (hBw : B ≤ w.heap.size) :
    Calls Tryz.prog 70 #[.pointer (some ⟨b, 0, none⟩), .string s] w fun e w' => e = .returned (.tuple #[.int .i64 s.size, .nilIface]) ∧ Lib.IsBuilderF 113 5 B b (bs ++ Lib.strCells s) w' ∧ Below B w w' ∧ Lib.OthersKept 5 (some b) w w' := by
  obtain ⟨i0, hi, hz0, hz1, hz2⟩ := info_parts byte_info
  have hck := check_any B b bs w h
  go_enter Tryz.func70, Tryz.ntmps70
  go_wp2_with (go_at_call 101; refine hck.mono ?_)
  rintro e w1 ⟨rfl, h1, hb1, hk1⟩
  obtain ⟨hB, v, hbk, hown, hne⟩ := h1
  have c0 : w1.cell? ⟨b, 0, none⟩ = some (.pointer (some ⟨b, 0, none⟩)) := by rw [Lib.cell_of_heap hbk]; rfl
  have c1 : w1.cell? ⟨b, 1, none⟩ = some v := by rw [Lib.cell_of_heap hbk]; rfl
  go_wp2_with (at_builtin; refine Lib.wpList_append_own_stringF _ rfl _ _ 33 9 rfl B 5 i0 Tryz.underlying33 Tryz.underlying9 hi hz0 hz1 hz2 _ _ _ rfl hown s rfl ?c3 ?c4 ?c5 ?_)
  case c3 => unfold maxLen; omega
  case c4 => omega
  case c5 => have := hb1.size; omega
  intro v' w2 hown' hgrow _
  have hlt : b < w1.heap.size := by
    rcases Nat.lt_or_ge b w1.heap.size with h' | h'
    · exact h'
    · simp [Array.getElem?_eq_none h'] at hbk
  have hb2 : w2.heap[b]? = some (.cells #[.pointer (some ⟨b, 0, none⟩), v] 113 (0, 0)) := by
    rw [hgrow.block b hlt (fun e => hne e.symm)]
    exact hbk
  have d0 : w2.cell? ⟨b, 0, none⟩ = some (.pointer (some ⟨b, 0, none⟩)) := by rw [Lib.cell_of_heap hb2]; rfl
  have d1 : w2.cell? ⟨b, 1, none⟩ = some v := by rw [Lib.cell_of_heap hb2]; rfl
  have f1 : w2.frozen? ⟨b, 1, none⟩ = false := Lib.frozen_of_heap hb2 1
  obtain ⟨ao, n', cap, rfl⟩ : ∃ ao n' cap, v' = .slice ao n' cap := by
    rcases hown'.2 with ⟨hv, _⟩ | ⟨g, cap, cur, fz, hv, _⟩
    · exact ⟨_, _, _, hv⟩
    · exact ⟨_, _, _, hv⟩
  go_wp2
  go_ret2
  refine ⟨rfl, .inr ?_, ?_, (hk1.grown hgrow (Lib.ownsRowF_kind hown)).setCell ⟨b, 1, none⟩ rfl _⟩
  · exact Lib.BuilderAtF.put (T := 113) (e := 5) hB hb2 (bs' := bs ++ Lib.strCells s) (by simpa [Lib.strCells_length] using hown') byte_ne_builder
  · exact (hb1.grown hgrow (by have := hb1.size; omega) (fun k hk => (hown.lt k hk).1)).setCell (p := ⟨b, 1, none⟩) hB _
end Go.Proofs.YtibndaianhlcaaaGreatDoor
namespace Go.Proofs
open Go.Shelf
def Tryz.lays169_ren : Go.Shelf.Ren := ⟨fun | 169 => 74 | n => n, fun | 70 => 111 | 9 => 9 | 0 => 0 | 72 => 113 | 37 => 33 | 127 => 137 | 3 => 3 | 5 => 5 | n => n, fun | n => n⟩
theorem Tryz.lays169 : Go.Proofs.Lays.n169 Tryz.prog Tryz.lays169_ren := {
  mixed := by kernel_rfl
  f169 := Tryz.func74.trans (congrArg some (by kernel_rfl))
  t0 := Tryz.underlying0
  a0 := Tryz.isAgg0
  z0 := Tryz.sizeOf0
  v0 := Tryz.zeroValue0
  t3 := Tryz.underlying3
  a3 := Tryz.isAgg3
  z3 := Tryz.sizeOf3
  v3 := Tryz.zeroValue3
  t9 := Tryz.underlying9
  a9 := Tryz.isAgg9
  z9 := Tryz.sizeOf9
  v9 := Tryz.zeroValue9
  t37 := Tryz.underlying33
  a37 := Tryz.isAgg33
  z37 := Tryz.sizeOf33
  v37 := Tryz.zeroValue33
  t70 := Tryz.underlying111
  a70 := Tryz.isAgg111
  z70 := Tryz.sizeOf111
  v70 := Tryz.zeroValue111
  t72 := Tryz.underlying113
  a72 := Tryz.isAgg113
  z72 := Tryz.sizeOf113
  v72 := Tryz.zeroValue113
  t127 := Tryz.underlying137
  a127 := Tryz.isAgg137
  z127 := Tryz.sizeOf137
  v127 := Tryz.zeroValue137 }
theorem Tryz.Builder_Extra_169 : Builder.Extra Tryz.prog Tryz.lays169_ren := {
  sizeBuilder := by kernel_rfl
  liesBuilder := by kernel_rfl
  t5 := Tryz.underlying5
  a5 := Tryz.isAgg5
  z5 := Tryz.sizeOf5
  v5 := Tryz.zeroValue5
  infoByte := by kernel_rfl
  cellsByte := by kernel_rfl
  sizeByte := by kernel_rfl
  neB5 := by decide }
open Go.RowKit in
/-- (*strings.Builder).String: "String returns the accumulated string.": WHATEVER THE BUILDER HOLDS; THE FORM '_k': OVER 'Lib.IsBuilderF' (a builder that 'String()' may have read), AND WITH THE FRAME THAT REACHES ABOVE THE BUILDER: 'Lib.OthersKept': every block that is not b and is no row of uint8's stands as it stood: the iterator of a range among them. (LAID: no walk: one application.) -/
theorem Tryz.Builder_String_any_k (B b : Nat) (l : List UInt8) (w : World) (h : Lib.IsBuilderF 113 5 B b (Lib.byteCells l) w) (hBw : B ≤ w.heap.size) :
    Calls Tryz.prog 74 #[.pointer (some ⟨b, 0, none⟩)] w fun e w' => e = .returned (.string ⟨l.toArray⟩) ∧ (Lib.IsBuilderF 113 5 B b (Lib.byteCells l) w' ∧ Below B w w' ∧ Lib.OthersKept 5 (some b) w w') := Any.Builder_String_any_k Tryz.lays169 Tryz.Builder_Extra_169 B b l w h hBw
end Go.Proofs
namespace Go.Proofs.YtibndaianhlcaaaGreatDoor
open Go.RowKit Go.Sort Go.Shelf
open Go.WideShapes (bytes_inj)
set_option linter.unusedVariables false
set_option linter.unusedSimpArgs false

def noDec : Nat → Txt := fun _ => []
/-- A step of the document's examples: no file, and it may be. -/
inductive SimpleA : AV → Prop
  | plain (kind : Int) (name : Txt) (eA : Option Addr) (ec : Nat) (uA : Option Addr) (uc : Nat) (uB : Option Addr) (ud : Nat) (hk : kind = 1 ∨ kind = 3 ∨ kind = 5) (hn : nameB name = true) (hl : name.length ≤ 1048576) : SimpleA ⟨kind, name, ev1 eA ec, sv1 uA uc uB ud⟩
  | unit (u : SV) (eA : Option Addr) (ec : Nat) (hm : mayU u.srv = true) (hs : SmallU u) (hl : (linesU u.srv).length ≤ 1000000) : SimpleA ⟨6, u.name, ev1 eA ec, u⟩
def lineA (a : AV) : Txt := headA noDec a.act ++ 10 :: bodyA a.act
def scriptT (l : List AV) : Txt := l.flatMap lineA
theorem scriptT_succ (l : List AV) {k : Nat} (hk : k < l.length) : scriptT (l.take (k + 1)) = scriptT (l.take k) ++ lineA l[k] := by
  unfold scriptT
  rw [List.take_succ_eq_append_getElem hk, List.flatMap_append, List.flatMap_cons, List.flatMap_nil, List.append_nil]
theorem SimpleA.short {a : AV} (h : SimpleA a) : (lineA a).length ≤ 3000000 := by
  cases h with
  | plain kind name eA ec uA uc uB ud hk hn hl =>
    unfold lineA
    rcases hk with rfl | rfl | rfl <;> simp [headA, bodyA, AV.act, wStop, wRemove, wDrop, wUser] <;> omega
  | unit u eA ec hm hs hl =>
    have := hs.name
    unfold lineA
    simp [headA, bodyA, AV.act, wStart]
    omega
theorem script_short : ∀ {l : List AV}, (∀ a ∈ l, SimpleA a) → (scriptT l).length ≤ l.length * 3000000
  | [], _ => by simp [scriptT]
  | a :: l, h => by
    have ih := script_short (l := l) fun x hx => h x (List.mem_cons_of_mem _ hx)
    have h1 := (h a List.mem_cons_self).short
    unfold scriptT at ih ⊢
    rw [List.flatMap_cons, List.length_append, List.length_cons, Nat.add_mul]
    omega
set_option maxRecDepth 100000 in
theorem headS_any {w : World} {a : AV} (h : SimpleA a) :
    Calls Tryz.prog 71 #[.agg (avArr a)] w fun e w' => ∃ b : ByteArray, e = .returned (.string b) ∧ b.data.toList = headA noDec a.act ∧ b.size ≤ 1048600 ∧ Below w.heap.size w w' := by
  have hb := bel_new w (.cells (avArr a) 61)
  cases h with
  | plain kind name eA ec uA uc uB ud hk hn hl =>
    unfold avArr ev1 sv1 at hb ⊢
    simp only at hb ⊢
    have q1 : ¬ 9223372036854775807 < 5 + name.length := by omega
    have hsz : (⟨name.toArray⟩ : ByteArray).size = name.length := bsz_mk name
    rcases hk with rfl | rfl | rfl
    all_goals
      go_enter Tryz.func71, Tryz.ntmps71
      go_wp2_with (fail)
      go_ret
      refine ⟨_, rfl, by simp [headA, AV.act, wStop, wDrop, wUser], ?_, hb⟩
      rw [ByteArray.size_append, hsz]
      show 5 + name.length ≤ _
      omega
  | unit u eA ec hm hs hl =>
    unfold avArr ev1 at hb ⊢
    simp only at hb ⊢
    have hl := hs.name
    have q1 : ¬ 9223372036854775807 < 6 + u.name.length := by omega
    have hsz : (⟨u.name.toArray⟩ : ByteArray).size = u.name.length := bsz_mk _
    go_enter Tryz.func71, Tryz.ntmps71
    go_wp2_with (fail)
    go_ret
    refine ⟨_, rfl, by simp [headA, AV.act, wStart], ?_, hb⟩
    rw [ByteArray.size_append, hsz]
    show 6 + u.name.length ≤ _
    omega
theorem mayS_any {w : World} {B : Nat} {a : AV} (h : SimpleA a) (ha : ActAt w B a) (hB : B ≤ w.heap.size) :
    Calls Tryz.prog 69 #[.agg (avArr a)] w fun e w' => e = .returned (.bool true) ∧ Below w.heap.size w w' := by
  cases h with
  | plain kind name eA ec uA uc uB ud hk hn hl =>
    have := mayP_any (w := w) (eA := eA) (ec := ec) (uA := uA) (uc := uc) (uB := uB) (ud := ud) kind name hk (by omega)
    rwa [hn] at this
  | unit u eA ec hm hs hl =>
    have := mayU_any (eA := eA) (ec := ec) u ha.req ha.aft hB hs
    rwa [hm] at this
theorem ActsAt.cells {w : World} {B : Nat} {A : Option Addr} {n c : Nat} {l : List AV} (h : ActsAt w B A n c l) {k : Nat} (hk : k < n) :
    ∃ b off, A = some ⟨b, off, none⟩ ∧ b < B ∧ ∃ hl : k < l.length, ∀ j v, (avCells l[k])[j]? = some v → w.cell? ⟨b, off + k * 9 + j, none⟩ = some v := by
  obtain ⟨b, off, e, hb, hc⟩ := h.slc.at_ (by omega)
  have hl : k < l.length := by rw [h.len]; exact hk
  refine ⟨b, off, e, hb, hl, fun j v hj => ?_⟩
  have hj9 : j < 9 := (List.getElem?_eq_some_iff.1 hj).1
  have := hc (k * 9 + j) v (by rw [flatMap_get avCells 9 l (fun o _ => avCells_length o) k j hl hj9]; exact hj)
  rwa [← Nat.add_assoc] at this
/-- The nine cells of a step. -/
structure Nine (W : World) (v : Nat) (x0 x1 x2 x3 x4 x5 x6 x7 x8 : Value) : Prop where
  c0 : W.cell? ⟨v, 0, none⟩ = some x0
  c1 : W.cell? ⟨v, 1, none⟩ = some x1
  c2 : W.cell? ⟨v, 2, none⟩ = some x2
  c3 : W.cell? ⟨v, 3, none⟩ = some x3
  c4 : W.cell? ⟨v, 4, none⟩ = some x4
  c5 : W.cell? ⟨v, 5, none⟩ = some x5
  c6 : W.cell? ⟨v, 6, none⟩ = some x6
  c7 : W.cell? ⟨v, 7, none⟩ = some x7
  c8 : W.cell? ⟨v, 8, none⟩ = some x8
theorem nine_of {W : World} {v : Nat} {x0 x1 x2 x3 x4 x5 x6 x7 x8 : Value} (h : Blk W v 61 #[x0, x1, x2, x3, x4, x5, x6, x7, x8]) : Nine W v x0 x1 x2 x3 x4 x5 x6 x7 x8 :=
  ⟨h.cell 0, h.cell 1, h.cell 2, h.cell 3, h.cell 4, h.cell 5, h.cell 6, h.cell 7, h.cell 8⟩
theorem head_line {b : ByteArray} {t : Txt} (h : b.data.toList = t) : (b ++ (⟨#[10]⟩ : ByteArray)).data.toList = t ++ [10] := by
  rw [← h]
  simp
theorem ws21 (B b : Nat) (l t : Txt) (s : ByteArray) (hs : s.data.toList = t) (w : World) (h : Lib.IsBuilderF 113 5 B b (Lib.byteCells l) w) (hlen : l.length + t.length ≤ 140737488355328) (hBw : B ≤ w.heap.size) :
    Calls Tryz.prog 70 #[.pointer (some ⟨b, 0, none⟩), .string s] w fun e w' => e = .returned (.tuple #[.int .i64 s.size, .nilIface]) ∧ Lib.IsBuilderF 113 5 B b (Lib.byteCells (l ++ t)) w' ∧ Below B w w' ∧ Lib.OthersKept 5 (some b) w w' := by
  have hsz : s.size = t.length := by rw [← hs]; rfl
  refine (ws_any B b (Lib.byteCells l) s w h (by rw [Lib.byteCells_length]; omega) hBw).mono ?_
  rintro e w' ⟨rfl, h1, h2, h3⟩
  refine ⟨rfl, ?_, h2, h3⟩
  rw [Lib.strCells_eq, hs, ← Lib.byteCells_append] at h1
  exact h1
theorem builder_new21 (w : World) : Lib.IsBuilderF 113 5 w.heap.size w.heap.size (Lib.byteCells []) (w.alloc (.cells #[.pointer none, .slice none 0 0] 113)) :=
  .inl ⟨Nat.le_refl _, .slice none 0 0, Blk.new _ _ _, World.ownsRowF_nil _ _ _ _, by simp [Value.ownBlock]⟩
theorem builder_below21 {w w' : World} {B b : Nat} {bs : List Value} (h : Lib.IsBuilderF 113 5 B b bs w) (hb : Below w.heap.size w w') : Lib.IsBuilderF 113 5 B b bs w' := by
  have key : ∀ p, Lib.BuilderAtF 113 5 B b p bs w → Lib.BuilderAtF 113 5 B b p bs w' := fun p hp => by
    have hlt := hp.lt
    obtain ⟨hB, v, hbk, hown, hne⟩ := hp
    refine ⟨hB, v, (hb.block b hlt).trans hbk, hown.kept (row := none) ⟨hb.os, hb.tape, hb.output, hb.size, fun k hk _ => hb.block k hk⟩ ?_, hne⟩
    rcases hv : v.ownBlock with _ | k
    · exact .inl rfl
    · exact .inr (by simp)
  exact h.elim (fun x => .inl (key _ x)) (fun x => .inr (key _ x))
set_option maxRecDepth 100000 in
set_option maxHeartbeats 4000000 in
theorem textS_any {w : World} {B : Nat} {A : Option Addr} {n c : Nat} {l : List AV} (h : ActsAt w B A n c l) (hB : B ≤ w.heap.size) (hn : n ≤ 128) (hs : ∀ a ∈ l, SimpleA a) :
    Calls Tryz.prog 31 #[.slice A n c] w fun e w' => ∃ b : ByteArray, e = .returned (.string b) ∧ b.data.toList = scriptT l ++ wEnd ∧ Below w.heap.size w w' := by
  have hD0 := builder_new21 w
  have hb0 := bel_new w (.cells #[.pointer none, .slice none 0 0] 113)
  have H := Lib.hid h
  have HB := Lib.hid hB
  have HS := Lib.hid hs
  have HD0 := Lib.hid hD0
  have HB0 := Lib.hid hb0
  have HL := Lib.hid h.len
  have HLT0 := Lib.hid (show w.heap.size < (w.alloc (.cells #[.pointer none, .slice none 0 0] 113)).heap.size by simp)
  have hn62 : n ≤ 9223372036854775807 := by omega
  clear h hB hs hD0 hb0
  go_enter Tryz.func31, Tryz.ntmps31
  go_wp2_with (fail)
  go_loopw [11] (fun i wr => ∃ k : Nat, k ≤ n ∧ i = .int .i64 (k : Int) ∧ Aside (Lib.IsBuilderF 113 5 w.heap.size w.heap.size (Lib.byteCells (scriptT (l.take k))) wr) ∧ Aside (Below w.heap.size w wr) ∧ Aside (w.heap.size < wr.heap.size)) (fun i _ => n - (intOf i).toNat)
  case atStart => exact ⟨0, Nat.zero_le _, rfl, HD0.out, HB0.out, HLT0.out⟩
  case round =>
    obtain ⟨k, hk, rfl, hD, hb, hlt0⟩ := hrel
    by_cases hlt : k < n
    · obtain ⟨b, off, rfl, hbB, hl, hcs⟩ := (H.out.below (hb.out.mono HB.out)).cells hlt
      have ha0 := H.out.acts _ (List.getElem_mem hl)
      have hak := (H.out.acts _ (List.getElem_mem hl)).below (hb.out.mono HB.out)
      have hsk := HS.out _ (List.getElem_mem hl)
      have HSC := Lib.hid (scriptT_succ l hl)
      have hsl : (scriptT (l.take k)).length ≤ 384000000 := Nat.le_trans (script_short fun a ha => HS.out a (List.mem_of_mem_take ha)) (by rw [List.length_take]; omega)
      generalize l[k] = a at *
      have hwb : B ≤ wr.heap.size := Nat.le_trans HB.out hb.out.size
      obtain ⟨W1, hW1⟩ : ∃ W1, W1 = wr.alloc (.cells (avArr a) 61) := ⟨_, rfl⟩
      have hb1 : Below wr.heap.size wr W1 := by rw [hW1]; exact bel_new _ _
      have hG1 : Blk W1 wr.heap.size 61 (avArr a) := by rw [hW1]; exact Blk.new _ _ _
      have hmay := mayS_any (w := W1) hsk (hak.below (hb1.mono hwb)) (Nat.le_trans hwb hb1.size)
      have HHD := Lib.hid (fun (W : World) => headS_any (w := W) hsk)
      have hshort := hsk.short
      have HLA := Lib.hid (show lineA a = headA noDec a.act ++ 10 :: bodyA a.act from rfl)
      have HG := Lib.hid (fun (W : World) (hW : Below W1.heap.size W1 W) => hG1.below hW hG1.lt)
      have HWS := Lib.hid (fun (W : World) (hW : Below W1.heap.size W1 W) (s : ByteArray) (t : Txt) (hst : s.data.toList = t) (ht : t.length ≤ 3000000) => ws21 w.heap.size w.heap.size (scriptT (l.take k)) t s hst W (builder_below21 hD.out (hb1.trans (hW.mono hb1.size))) (by omega) (Nat.le_trans hb.out.size (Nat.le_trans hb1.size hW.size)))
      have HB1 := Lib.hid hb1
      have HBW := Lib.hid hb.out
      have HW1 := Lib.hid hW1
      have HLT := Lib.hid hlt0.out
      cases hsk with
      | plain kind name eA ec uA uc uB ud hk9 hn9 hl9 =>
        have c0 : wr.cell? ⟨b, off + k * 9, none⟩ = some (.int .i64 kind) := hcs 0 _ rfl
        have c1 : wr.cell? ⟨b, off + k * 9 + 1, none⟩ = some (.string ⟨name.toArray⟩) := hcs 1 _ rfl
        have c2 : wr.cell? ⟨b, off + k * 9 + 2, none⟩ = some (.string ⟨#[]⟩) := hcs 2 _ rfl
        have c3 : wr.cell? ⟨b, off + k * 9 + 3, none⟩ = some (.int .i64 0) := hcs 3 _ rfl
        have c4 : wr.cell? ⟨b, off + k * 9 + 4, none⟩ = some (.slice eA 0 ec) := hcs 4 _ rfl
        have c5 : wr.cell? ⟨b, off + k * 9 + 5, none⟩ = some (.string ⟨#[]⟩) := hcs 5 _ rfl
        have c6 : wr.cell? ⟨b, off + k * 9 + 6, none⟩ = some (.string ⟨#[]⟩) := hcs 6 _ rfl
        have c7 : wr.cell? ⟨b, off + k * 9 + 7, none⟩ = some (.slice uA 0 uc) := hcs 7 _ rfl
        have c8 : wr.cell? ⟨b, off + k * 9 + 8, none⟩ = some (.slice uB 0 ud) := hcs 8 _ rfl
        have HBD := Lib.hid (show bodyA (⟨kind, name, ev1 eA ec, sv1 uA uc uB ud⟩ : AV).act = [] by unfold bodyA; rcases hk9 with rfl | rfl | rfl <;> rfl)
        have hk4 : (kind == 4) = false := by rcases hk9 with rfl | rfl | rfl <;> rfl
        have hk6 : (kind == 6) = false := by rcases hk9 with rfl | rfl | rfl <;> rfl
        obtain ⟨TXT, hTX⟩ : ∃ T, T = headA noDec (⟨kind, name, ev1 eA ec, sv1 uA uc uB ud⟩ : AV).act ++ [10] := ⟨_, rfl⟩
        have HTX := Lib.hid hTX
        have HTS := Lib.hid (show TXT.length ≤ 3000000 by rw [hTX]; have := hshort; rw [HLA.out, HBD.out] at this; simpa using this)
        have HFIN := Lib.hid (show scriptT (l.take (k + 1)) = scriptT (l.take k) ++ TXT by rw [HSC.out, HLA.out, HBD.out, hTX])
        rw [hW1] at hmay
        unfold avArr ev1 sv1 at hmay HG HHD
        simp only at hmay HG HHD
        clear hcs hak ha0 hG1 hW1 hb1 hb hD hlt0 hshort hk9 hn9 hTX
        go_wp2_with (first
          | (go_at_call 69; refine hmay.mono ?_; clear hmay; rintro e2 w2 ⟨rfl, hb2⟩; have hb2' := (show Below W1.heap.size W1 w2 by rw [HW1.out]; exact hb2); obtain ⟨y0, y1, y2, y3, y4, y5, y6, y7, y8⟩ := nine_of (HG.out w2 hb2'); have hhd := HHD.out w2; have HB2 := Lib.hid hb2'; clear hb2 hb2')
          | (go_at_call 71; refine hhd.mono ?_; clear hhd; rintro e3 w3 ⟨hs3, rfl, hd3, hz3, hb3⟩; have hb3' := HB2.out.trans (hb3.mono HB2.out.size); have q9 : ¬ 9223372036854775807 < hs3.size + 1 := (by omega); have hws := HWS.out w3 hb3' (hs3 ++ ⟨#[10]⟩) TXT ((head_line hd3).trans HTX.out.symm) HTS.out; have HB3 := Lib.hid hb3'; clear hb3 hb3' hd3)
          | (go_at_call 70; refine hws.mono ?_; clear hws; rintro e4 w4 ⟨rfl, hd4, hb4, hk4⟩; obtain ⟨z0, z1, z2, z3, z4, z5, z6, z7, z8⟩ := nine_of (blk_others (HG.out w3 HB3.out) hk4 (by have := HLT.out; omega) (by decide)); have HD4 := Lib.hid hd4; have HBZ := Lib.hid (show w3.heap.size ≤ w4.heap.size from hb4.size); have HB4 := Lib.hid ((HBW.out.trans (HB1.out.mono HBW.out.size)).trans ((HB3.out.mono (Nat.le_trans HBW.out.size HB1.out.size)).trans hb4)); clear hb4 hk4 hd4))
        have hsz := HB3.out.size
        exact ⟨⟨k + 1, by omega, by go_num, (show Lib.IsBuilderF _ _ _ _ _ _ by rw [HFIN.out]; exact HD4.out), HB4.out, by have h1 := HLT.out; have h2 := HB1.out.size; have h3 := HBZ.out; exact (show w.heap.size < w4.heap.size by omega)⟩, by simp [intOf]; omega⟩
      | unit u eA ec hm hs9 hl9 =>
        have c0 : wr.cell? ⟨b, off + k * 9, none⟩ = some (.int .i64 6) := hcs 0 _ rfl
        have c1 : wr.cell? ⟨b, off + k * 9 + 1, none⟩ = some (.string ⟨u.name.toArray⟩) := hcs 1 _ rfl
        have c2 : wr.cell? ⟨b, off + k * 9 + 2, none⟩ = some (.string ⟨#[]⟩) := hcs 2 _ rfl
        have c3 : wr.cell? ⟨b, off + k * 9 + 3, none⟩ = some (.int .i64 0) := hcs 3 _ rfl
        have c4 : wr.cell? ⟨b, off + k * 9 + 4, none⟩ = some (.slice eA 0 ec) := hcs 4 _ rfl
        have c5 : wr.cell? ⟨b, off + k * 9 + 5, none⟩ = some (.string ⟨u.name.toArray⟩) := hcs 5 _ rfl
        have c6 : wr.cell? ⟨b, off + k * 9 + 6, none⟩ = some (.string ⟨u.start.toArray⟩) := hcs 6 _ rfl
        have c7 : wr.cell? ⟨b, off + k * 9 + 7, none⟩ = some (.slice u.A u.n u.c) := hcs 7 _ rfl
        have c8 : wr.cell? ⟨b, off + k * 9 + 8, none⟩ = some (.slice u.A2 u.n2 u.c2) := hcs 8 _ rfl
        have HBD := Lib.hid (show bodyA (⟨6, u.name, ev1 eA ec, u⟩ : AV).act = linesU u.srv from rfl)
        obtain ⟨TXT, hTX⟩ : ∃ T, T = headA noDec (⟨6, u.name, ev1 eA ec, u⟩ : AV).act ++ [10] := ⟨_, rfl⟩
        have HTX := Lib.hid hTX
        have HTS := Lib.hid (show TXT.length ≤ 3000000 by rw [hTX]; have := hshort; rw [HLA.out, HBD.out] at this; simp at this ⊢; omega)
        have HFIN := Lib.hid (show scriptT (l.take (k + 1)) = scriptT (l.take k) ++ TXT ++ linesU u.srv by rw [HSC.out, HLA.out, HBD.out, hTX]; simp)
        have HUN := Lib.hid (fun (W : World) (hW : Below w.heap.size w W) => unit21_any (w := W) u (ha0.req.below (hW.mono HB.out)) (ha0.aft.below (hW.mono HB.out)) (Nat.le_trans HB.out hW.size) hs9)
        rw [hW1] at hmay
        unfold avArr ev1 at hmay HG HHD
        simp only at hmay HG HHD
        clear hcs hak ha0 hG1 hW1 hb1 hb hD hlt0 hshort hTX
        go_wp2_with (first
          | (go_at_call 69; refine hmay.mono ?_; clear hmay; rintro e2 w2 ⟨rfl, hb2⟩; have hb2' := (show Below W1.heap.size W1 w2 by rw [HW1.out]; exact hb2); obtain ⟨y0, y1, y2, y3, y4, y5, y6, y7, y8⟩ := nine_of (HG.out w2 hb2'); have hhd := HHD.out w2; have HB2 := Lib.hid hb2'; clear hb2 hb2')
          | (go_at_call 71; refine hhd.mono ?_; clear hhd; rintro e3 w3 ⟨hs3, rfl, hd3, hz3, hb3⟩; have hb3' := HB2.out.trans (hb3.mono HB2.out.size); have q9 : ¬ 9223372036854775807 < hs3.size + 1 := (by omega); have hws := HWS.out w3 hb3' (hs3 ++ ⟨#[10]⟩) TXT ((head_line hd3).trans HTX.out.symm) HTS.out; have HB3 := Lib.hid hb3'; clear hb3 hb3' hd3)
          | (go_at_call 70; refine hws.mono ?_; clear hws; rintro e4 w4 ⟨rfl, hd4, hb4, hk4⟩; obtain ⟨z0, z1, z2, z3, z4, z5, z6, z7, z8⟩ := nine_of (blk_others (HG.out w3 HB3.out) hk4 (by have := HLT.out; omega) (by decide)); have HD4 := Lib.hid hd4; have HBZ := Lib.hid (show w3.heap.size ≤ w4.heap.size from hb4.size); have HB4 := Lib.hid ((HBW.out.trans (HB1.out.mono HBW.out.size)).trans ((HB3.out.mono (Nat.le_trans HBW.out.size HB1.out.size)).trans hb4)); have hun := HUN.out w4 HB4.out; unfold svArr at hun; clear hb4 hk4 hd4)
          | (go_at_call 73; refine hun.mono ?_; clear hun; rintro e5 w5 ⟨rfl, hb5⟩; have hws2 := ws21 w.heap.size w.heap.size (scriptT (l.take k) ++ TXT) (linesU u.srv) ⟨(linesU u.srv).toArray⟩ (by simp) w5 (builder_below21 HD4.out hb5) (by rw [List.length_append]; have := HTS.out; omega) (Nat.le_trans HB4.out.size hb5.size); have HB5 := Lib.hid (HB4.out.trans (hb5.mono HB4.out.size)); have HZ5 := Lib.hid (show w4.heap.size ≤ w5.heap.size from hb5.size); clear hb5)
          | (go_at_call 70; refine hws2.mono ?_; clear hws2; rintro e6 w6 ⟨rfl, hd6, hb6, hk6⟩; have HD6 := Lib.hid hd6; have HB6 := Lib.hid (HB5.out.trans hb6); have HZ6 := Lib.hid (show w5.heap.size ≤ w6.heap.size from hb6.size); clear hb6 hk6 hd6))
        have hsz := HB3.out.size
        exact ⟨⟨k + 1, by omega, by go_num, (show Lib.IsBuilderF _ _ _ _ _ _ by rw [HFIN.out]; exact HD6.out), HB6.out, by have h1 := HLT.out; have h2 := HB1.out.size; have h3 := HBZ.out; have h4 := HZ5.out; have h5 := HZ6.out; exact (show w.heap.size < w6.heap.size by omega)⟩, by simp [intOf]; omega⟩
    · obtain rfl : k = n := by omega
      have HT := Lib.hid (show l.take k = l by rw [List.take_of_length_le (by have := HL.out; omega)])
      have hd9 := hD.out
      rw [HT.out] at hd9
      have hst := Tryz.Builder_String_any_k w.heap.size w.heap.size _ wr hd9 hb.out.size
      have HSS := Lib.hid (show (scriptT l).length ≤ 384000000 from Nat.le_trans (script_short fun a ha => HS.out a ha) (by have := HL.out; omega))
      have HBB := Lib.hid hb.out
      have q9 : ¬ 9223372036854775807 < (scriptT l).length + 4 := by have := HSS.out; omega
      clear hd9 hD hb hlt0
      go_wp2_with (go_at_call 74; refine hst.mono ?_; clear hst; rintro e7 w7 ⟨rfl, hd7, hb7, hk7⟩; have HB7 := Lib.hid (HBB.out.trans hb7); clear hd7 hb7 hk7)
      go_ret
      exact ⟨_, rfl, by simp [wEnd], HB7.out⟩
end Go.Proofs.YtibndaianhlcaaaGreatDoor
