/- The reference of layer 20: May. The walk of MachineStands. How much an argument holds, where it is of bulk at most 1048576. -/
import Derived.Test.YtibndaianhlcaaaDoorPart15
import Derived.Test.YtibndaianhlcaaaDoorPart16
import Derived.Test.YtibndaianhlcaaaDoorRows
import Derived.WideShapes
namespace Go.Proofs.YtibndaianhlcaaaDoor
open Go.RowKit Go.Sort Go.Shelf
set_option linter.unusedVariables false
set_option linter.unusedSimpArgs false

theorem print_lo {c : UInt8} (h : (c.toNat : Int) < 32) : printB c = false := by unfold printB; exact decide_eq_false (by omega)
theorem print_hi {c : UInt8} (h : (126 : Int) < (c.toNat : Int)) : printB c = false := by unfold printB; exact decide_eq_false (by omega)
theorem print_ok {c : UInt8} (h : ¬ (c.toNat : Int) < 32) (h2 : ¬ (126 : Int) < (c.toNat : Int)) : printB c = true := by unfold printB; exact decide_eq_true (by omega)
set_option maxRecDepth 100000 in
set_option maxHeartbeats 2000000 in
theorem refMay_any {w : World} {B : Nat} (u : SV) (h1 : Slc w B 1 u.A u.n u.c (u.req.map encStr)) (h2 : Slc w B 1 u.A2 u.n2 u.c2 (u.aft.map encStr)) (hB : B ≤ w.heap.size) (hn : u.n ≤ 1000000000 ∧ u.n2 ≤ 1000000000) (hs : ∀ t ∈ u.name :: (u.req ++ u.aft), t.length ≤ 1000000000) (hst : u.start.length ≤ 1000000000) :
    Calls Tryd.prog 13 #[.agg (svArr u)] w fun e w' => e = .returned (.bool (mayU u.srv)) ∧ Below w.heap.size w w' := by
  have hbv : Below w.heap.size w (w.alloc (.cells (svArr u) 46)).drew := ((Below.refl _ w).alloc (Nat.le_refl _) _).drew
  have hzv : (w.alloc (.cells (svArr u) 46)).drew.heap.size = w.heap.size + 1 := by simp
  have hGv : Blk (w.alloc (.cells (svArr u) 46)).drew w.heap.size 46 (svArr u) := (Blk.new _ _ _).drew
  obtain ⟨A1, c1, w1, A2, c2, w2, S⟩ := names20 (w := w) u (h1.below (hbv.mono hB)) (h2.below (hbv.mono hB)) (by rw [hzv]; omega) hn
  have HG2 := Lib.hid (hGv.below S.bel hGv.lt)
  have HG1 := Lib.hid (hGv.below S.bel1 hGv.lt)
  have HG0 := Lib.hid hGv
  have HB2 := Lib.hid (hbv.trans (S.bel.mono (by rw [hzv]; omega)))
  have HW := Lib.hid S.row
  have r1 := S.r1
  have r2 := S.r2
  rw [hzv] at r1
  obtain ⟨L, hL⟩ : ∃ L, L = u.name :: (u.req ++ u.aft) := ⟨_, rfl⟩
  have HM := Lib.hid (show mayU u.srv = (L.all nameB && decide (1 ≤ u.start.length ∧ u.start.length ≤ 120) && u.start.all printB) by rw [hL]; rfl)
  rw [← hL] at HW hs
  have hLn : L.length = 1 + u.n + u.n2 := by have e1 := h1.len; have e2 := h2.len; rw [List.length_map] at e1 e2; rw [hL]; simp; omega
  obtain ⟨N, hN⟩ : ∃ N, N = 1 + u.n + u.n2 := ⟨_, rfl⟩
  rw [← hN] at r2 HW hLn
  have hN62 : N ≤ 9000000000 := by omega
  have hw2 : w.heap.size < w2.heap.size := by have := S.bel.size; omega
  have HS := Lib.hid hs
  have HLN := Lib.hid hLn
  have HN := Lib.hid hN
  clear h1 h2 hB hn S hbv hzv hGv hL hs hLn hN
  have HLEN : Hid (u.start.length ≤ 1000000000) := hst
  obtain ⟨nm, st, rq, A, n, c, af, A', n', c'⟩ := u
  have x0 := HG0.out.cell 0
  have x1 := HG0.out.cell 1
  have x2 := HG0.out.cell 2
  have x3 := HG0.out.cell 3
  have y2 := HG1.out.cell 2
  have y3 := HG1.out.cell 3
  unfold svArr at r1 x0 x1 x2 x3 y2 y3 ⊢
  simp only [List.getElem?_toArray, List.getElem?_cons_zero, List.getElem?_cons_succ] at x0 x1 x2 x3 y2 y3
  simp only at r1 r2
  have r1' : (Builtin.append_ #[29, 29] 29 #[.slice (some ⟨w.heap.size + 1, 0, none⟩) 1 1, .slice A n c]).run Tryd.prog ((w.alloc (.cells #[.string ⟨nm.toArray⟩, .string ⟨st.toArray⟩, .slice A n c, .slice A' n' c'] 46)).alloc (.cells #[.string ⟨nm.toArray⟩] 9)).drew = .ok (.slice A1 (1 + n) c1) w1 := r1
  have HR1 := Lib.hid r1'
  clear r1'
  have HR2 := Lib.hid r2
  have HX := Lib.hid (And.intro x0 (And.intro x2 x3))
  have HGA := Lib.hid ((HG0.out).alloc (.cells #[.string ⟨nm.toArray⟩] 9))
  have HXA := Lib.hid (And.intro (HGA.out.cell 0) (And.intro (HGA.out.cell 2) (HGA.out.cell 3)))
  have HX1 := Lib.hid (And.intro (HG1.out.cell 0) (And.intro (HG1.out.cell 2) (HG1.out.cell 3)))
  have HX2 := Lib.hid (And.intro (HG2.out.cell 0) (And.intro (HG2.out.cell 2) (HG2.out.cell 3)))
  clear r1 r2 x0 x1 x2 x3 y2 y3
  go_enter Tryd.func13, Tryd.ntmps13
  go_wp2_with (fail)
  go_region_held3 (fun W' => W'.cell? ⟨w.heap.size, 0, none⟩ = some (.string ⟨nm.toArray⟩) ∧ W'.cell? ⟨w.heap.size, 2, none⟩ = some (.slice A n c) ∧ W'.cell? ⟨w.heap.size, 3, none⟩ = some (.slice A' n' c')) (first | exact HX.out | exact HXA.out | exact HX1.out | exact HX2.out) (first
    | (refine step_append_at (by rfl) _ _ _ (by rfl) HR1.out (by with_reducible rfl) (by rfl) (by rfl) (by rfl) ?_)
    | (refine step_append_at (by rfl) _ _ _ (by rfl) HR2.out (by with_reducible rfl) (by rfl) (by rfl) (by rfl) ?_))
  go_wp2_with (fail)
  go_loopw [4, 5] (fun i _ wr => ∃ k : Nat, k ≤ N ∧ i = .int .i64 (k : Int) ∧ Aside ((L.take k).all nameB = true) ∧ Aside (Below w2.heap.size w2 wr)) (fun i _ _ => N - (intOf i).toNat)
  case atStart => exact ⟨0, Nat.zero_le _, rfl, rfl, Below.refl _ _⟩
  case round =>
    obtain ⟨k, hk, rfl, hall, hb⟩ := hrel
    by_cases hlt : k < N
    · obtain ⟨b, off, rfl, hbB, hc⟩ := (HW.out.below hb.out).at_ (by omega)
      have hkL : k < L.length := by rw [HLN.out]; exact hlt
      have c0 : wr.cell? ⟨b, off + k, none⟩ = some (.string ⟨L[k].toArray⟩) := hc k _ (by rw [List.getElem?_map, List.getElem?_eq_getElem hkL]; rfl)
      have hsh := HS.out _ (List.getElem_mem hkL)
      have hnm := refName_any ⟨L[k].toArray⟩ wr (by show L[k].toArray.size ≤ maxLen; rw [List.size_toArray]; unfold maxLen; omega)
      have HTK := Lib.hid (show (L.take (k + 1)).all nameB = nameB L[k] by rw [List.take_succ_eq_append_getElem hkL, List.all_append, hall.out]; simp)
      have HAL := Lib.hid (show nameB L[k] = false → L.all nameB = false from fun h9 => by rw [List.all_eq_false]; exact ⟨_, List.getElem_mem hkL, by rw [h9]; decide⟩)
      generalize L[k] = t at *
      have ht : (ByteArray.mk t.toArray).data.toList = t := rfl
      rw [ht] at hnm
      clear hc hsh ht
      cases hb9 : nameB t with
      | false =>
        rw [hb9] at hnm
        have HF := Lib.hid (show mayU ⟨nm, st, rq, af⟩ = false by have h8 := HM.out; rw [HAL.out hb9] at h8; exact h8)
        clear hb9
        go_wp2_with (go_at_call 30; refine hnm.mono ?_; clear hnm; rintro e9 w9 ⟨rfl, hb9⟩; have HB9 := Lib.hid (hb.out.trans (hb9.mono hb.out.size)); clear hb9)
        go_ret
        exact ⟨by show _ = Ending.returned (.bool (mayU ⟨nm, st, rq, af⟩)); rw [HF.out]; rfl, HB2.out.trans (HB9.out.mono (by have := HB2.out.size; omega))⟩
      | true =>
        rw [hb9] at hnm
        have HT := Lib.hid (HTK.out.trans hb9)
        clear hb9
        go_wp2_with (go_at_call 30; refine hnm.mono ?_; clear hnm; rintro e9 w9 ⟨rfl, hb9⟩; have HB9 := Lib.hid (hb.out.trans (hb9.mono hb.out.size)); clear hb9)
        exact ⟨⟨k + 1, by omega, by go_num, HT.out, HB9.out⟩, by simp [intOf]; omega⟩
    · have HM2 := Lib.hid (show mayU ⟨nm, st, rq, af⟩ = (decide (1 ≤ st.length ∧ st.length ≤ 120) && st.all printB) by
        have h8 := HM.out
        have h9 := hall.out
        rw [List.take_of_length_le (by have := HLN.out; omega)] at h9
        rw [h9, Bool.true_and] at h8
        exact h8)
      have hGr := HG2.out.below hb.out hw2
      have z1 := hGr.cell 1
      unfold svArr at z1
      simp only [List.getElem?_toArray, List.getElem?_cons_zero, List.getElem?_cons_succ] at z1
      have HBR := Lib.hid (HB2.out.trans (hb.out.mono (by have := HB2.out.size; omega)))
      have hst9 := HLEN.out
      obtain ⟨wo, hwo⟩ : ∃ wo : World, wo = wr := ⟨_, rfl⟩
      have HWO := Lib.hid hwo
      clear hGr HG0 HG1 HG2 HX HX1 HX2 HXA HGA hwo
      go_wp2_with (fail)
      go_loopw [6] (fun i wr => ∃ k : Nat, k ≤ st.length ∧ i = .int .i64 (k : Int) ∧ wr = wo ∧ Aside ((st.take k).all printB = true)) (fun i _ => st.length - (intOf i).toNat)
      case atStart => exact ⟨0, Nat.zero_le _, rfl, HWO.out.symm, rfl⟩
      case round =>
        obtain ⟨k2, hk2, rfl, rfl, hall2⟩ := hrel
        have z1' := z1
        rw [← HWO.out] at z1'
        by_cases hlt2 : k2 < st.length
        · have hx2 : k2 < (ByteArray.mk st.toArray).size := hlt2
          have hce : (ByteArray.mk st.toArray)[k2] = st[k2] := rfl
          have HTK2 := Lib.hid (show (st.take (k2 + 1)).all printB = printB st[k2] by rw [List.take_succ_eq_append_getElem hlt2, List.all_append, hall2.out]; simp)
          have HAL2 := Lib.hid (show printB st[k2] = false → mayU ⟨nm, st, rq, af⟩ = false from fun h9 => by
            have h8 : st.all printB = false := by rw [List.all_eq_false]; exact ⟨_, List.getElem_mem hlt2, by rw [h9]; decide⟩
            rw [HM2.out, h8, Bool.and_false])
          rw [← hce] at HTK2 HAL2
          clear hce
          generalize hcc : (ByteArray.mk st.toArray)[k2] = ch at *
          by_cases hc1 : (ch.toNat : Int) < 32
          · have HF := Lib.hid (HAL2.out (print_lo hc1))
            go_wp2_with (fail)
            go_ret
            exact ⟨by show _ = Ending.returned (.bool (mayU ⟨nm, st, rq, af⟩)); rw [HF.out]; rfl, HWO.out ▸ HBR.out⟩
          · by_cases hc2 : (126 : Int) < (ch.toNat : Int)
            · have HF := Lib.hid (HAL2.out (print_hi hc2))
              go_wp2_with (fail)
              go_ret
              exact ⟨by show _ = Ending.returned (.bool (mayU ⟨nm, st, rq, af⟩)); rw [HF.out]; rfl, HWO.out ▸ HBR.out⟩
            · have HT := Lib.hid (HTK2.out.trans (print_ok hc1 hc2))
              go_wp2_with (fail)
              exact ⟨⟨k2 + 1, by omega, by go_num, by first | rfl | trivial, HT.out⟩, by simp [intOf]; omega⟩
        · obtain rfl : k2 = st.length := by omega
          have HM3 := Lib.hid (show mayU ⟨nm, st, rq, af⟩ = decide (1 ≤ st.length ∧ st.length ≤ 120) by
            have h9 := hall2.out
            rw [List.take_of_length_le (Nat.le_refl _)] at h9
            rw [HM2.out, h9, Bool.and_true])
          by_cases ha : (1 : Int) ≤ (st.length : Int)
          · by_cases hbb : (st.length : Int) ≤ 120
            · have HF := Lib.hid (show mayU ⟨nm, st, rq, af⟩ = true by rw [HM3.out]; exact decide_eq_true (by omega))
              go_wp2_with (fail)
              go_ret
              exact ⟨by show _ = Ending.returned (.bool (mayU ⟨nm, st, rq, af⟩)); rw [HF.out]; rfl, HWO.out ▸ HBR.out⟩
            · have HF := Lib.hid (show mayU ⟨nm, st, rq, af⟩ = false by rw [HM3.out]; exact decide_eq_false (by omega))
              go_wp2_with (fail)
              go_ret
              exact ⟨by show _ = Ending.returned (.bool (mayU ⟨nm, st, rq, af⟩)); rw [HF.out]; rfl, HWO.out ▸ HBR.out⟩
          · have HF := Lib.hid (show mayU ⟨nm, st, rq, af⟩ = false by rw [HM3.out]; exact decide_eq_false (by omega))
            go_wp2_with (fail)
            go_ret
            exact ⟨by show _ = Ending.returned (.bool (mayU ⟨nm, st, rq, af⟩)); rw [HF.out]; rfl, HWO.out ▸ HBR.out⟩
end Go.Proofs.YtibndaianhlcaaaDoor
namespace Go.Proofs.YtibndaianhlcaaaDoor
open Go.RowKit Go.Sort Go.Shelf
set_option linter.unusedVariables false
set_option linter.unusedSimpArgs false

theorem nameB_short {t : Txt} (h : nameB t = true) : t.length ≤ 36 := by
  unfold nameB at h
  simp only [Bool.and_eq_true, decide_eq_true_iff] at h
  omega
theorem mayU_short {u : Srv} (h : mayU u = true) : (∀ t ∈ u.name :: (u.req ++ u.aft), t.length ≤ 1000000000) ∧ u.start.length ≤ 1000000000 := by
  unfold mayU at h
  simp only [Bool.and_eq_true, decide_eq_true_iff] at h
  refine ⟨fun t ht => ?_, by omega⟩
  have := nameB_short (List.all_eq_true.1 h.1.1 t ht)
  omega
theorem unit_ne {us : List SV} (hn : (us.map (fun u => u.name)).Nodup) {i j : Nat} (hi : i < us.length) (hj : j < us.length) (hij : j < i) : us[j].name ≠ us[i].name := by
  have h := List.pairwise_iff_getElem.1 hn j i (by simpa using hj) (by simpa using hi) hij
  simpa using h
/-- What the law sees at the end. -/
structure Told20 (W : World) (v : Nat) (o : OV) : Prop where
  obs : ObsAt W W.heap.size o
  var : Blk W v 38 (ovArr o)
  files : Rises (o.es.map (·.path))
  users : Rises o.users
  units : ∀ u ∈ o.us, mayU u.srv = true
  lists : ∀ u ∈ o.us, u.n ≤ 1000000000 ∧ u.n2 ≤ 1000000000
  names : (o.us.map (fun u => u.name)).Nodup
  nf : o.n ≤ 24
  nu : o.n2 ≤ 16
  nn : o.n3 ≤ 24
theorem MRun.told {w W W4 : World} {B : Nat} {F : Nat → Prop} {g : Nat} {s : Mach} (h : MRun w B W F g s) {A : Option Addr} {n c : Nat} {es : List EV} {A2 : Option Addr} {n2 c2 : Nat} {A3 : Option Addr} {n3 c3 : Nat} {us : List SV} (ho : ObsOut W W4 s A n c es A2 n2 c2 A3 n3 c3 us) :
    Told20 (W4.alloc (.cells (ovArr ⟨A, n, c, es, A2, n2, c2, s.users, A3, n3, c3, us⟩) 38)) W4.heap.size ⟨A, n, c, es, A2, n2, c2, s.users, A3, n3, c3, us⟩ := by
  have h5 := Seen20.new h ho
  have hl := ho.files.len
  have hlu : us.length = n3 := ho.units.len
  have e1 := congrArg List.length ho.ents
  have e3 := congrArg List.length ho.srvs
  rw [List.length_map] at e1 e3
  have e2 : s.users.length = n2 := by have := ho.users.own.1; simpa using this
  have g1 := h.good.nf
  have g2 := h.good.nu
  have g3 := h.good.nn
  refine ⟨h5.obs.at_, h5.var.blk, ?_, h.good.users, fun u hu => h.good.units u.srv (by rw [← ho.srvs]; exact List.mem_map.2 ⟨u, hu, rfl⟩), fun u hu => ?_, ?_, by show n ≤ 24; omega, by show n2 ≤ 16; omega, by show n3 ≤ 24; omega⟩
  · show Rises (es.map (·.path))
    rw [paths_ents, ho.ents]
    exact h.good.files
  · have h1 := h.small.lists u.srv (by rw [← ho.srvs]; exact List.mem_map.2 ⟨u, hu, rfl⟩)
    have h2 : u.req.length = u.n := by have := (ho.units.req u hu).own.1; simpa using this
    have h3 : u.aft.length = u.n2 := by have := (ho.units.aft u hu).own.1; simpa using this
    have h4 : u.req.length ≤ 1000000000 := h1.1
    have h5 : u.aft.length ≤ 1000000000 := h1.2
    omega
  · show (us.map (fun u => u.name)).Nodup
    have h1 := h.good.names
    rw [← ho.srvs, List.map_map] at h1
    exact h1
theorem Told20.below {W W' : World} {v : Nat} {o : OV} (h : Told20 W v o) (hb : Below W.heap.size W W') : Told20 W' v o :=
  ⟨⟨⟨(h.obs.files.below hb).slc.more hb.size, h.obs.files.len, fun e he => ((h.obs.files.below hb).data e he).more hb.size⟩, (h.obs.users.below hb).more hb.size, ⟨(h.obs.units.below hb).slc.more hb.size, h.obs.units.len, fun u hu => ((h.obs.units.below hb).req u hu).more hb.size, fun u hu => ((h.obs.units.below hb).aft u hu).more hb.size⟩⟩, h.var.below hb h.var.lt, h.files, h.users, h.units, h.lists, h.names, h.nf, h.nu, h.nn⟩
theorem Told20.facts {W : World} {v : Nat} {o : OV} (h : Told20 W v o) : W.cell? ⟨v, 0, none⟩ = some (.slice o.A o.n o.c) ∧ W.cell? ⟨v, 1, none⟩ = some (.slice o.A2 o.n2 o.c2) ∧ W.cell? ⟨v, 2, none⟩ = some (.slice o.A3 o.n3 o.c3) := ⟨h.var.cell 0, h.var.cell 1, h.var.cell 2⟩
section
attribute [local go_sem ↓] load_act_mark
set_option maxRecDepth 100000 in
set_option maxHeartbeats 8000000 in
theorem stands20_any {w : World} {A : Option Addr} {n c : Nat} {p : List Bool} (hp : Slc w w.heap.size 1 A n c (p.map bl)) (hn : n ≤ 1000000000) {A' : Option Addr} {n' c' : Nat} {acts : List AV} (hl : ActsAt w w.heap.size A' n' c' acts) (hs : ∀ a ∈ acts, SmallA a) (hn' : n' ≤ 1000000000) :
    Calls Tryd.prog 4 #[.slice A n c, .slice A' n' c'] w fun e w' => e = .returned (.bool true) ∧ Below w.heap.size w w' := by
  have hsh := shown20_any w
  have HP := Lib.hid hp
  have HL := Lib.hid hl
  have HS := Lib.hid hs
  clear hp hl hs
  go_enter Tryd.func4, Tryd.ntmps4
  go_wp2_with (first
    | (go_at_call 6; refine hsh.mono ?_; clear hsh; rintro e w1 ⟨rfl, hb1⟩; have hnew := new_any w1; have HB1 := Lib.hid hb1; clear hb1)
    | (go_at_call 7; refine hnew.mono ?_; clear hnew; rintro e w2 ⟨rfl, hm, hb⟩; have hR := MRun.start HB1.out hm hb; have hpl := hR.plan_ (HP.out.below hR.bel) hR.bel.size hn; clear hm hb)
    | (go_at_call 8; refine hpl.mono ?_; clear hpl hR; rintro e w3 ⟨rfl, G, hR, -, -⟩; have HR := Lib.hid hR; clear hR))
  generalize w2.heap.size = B at *
  generalize w1.heap.size = g at *
  go_loopw [7] (fun i wr => ∃ k : Nat, k ≤ n' ∧ k ≤ 200 ∧ i = .int .i64 (k : Int) ∧ Aside (∃ F s, MRun w B wr F g s)) (fun i _ => n' - (intOf i).toNat)
  case atStart => exact ⟨0, Nat.zero_le _, Nat.zero_le _, rfl, _, _, HR.out⟩
  case round =>
    obtain ⟨k, hk, hk200, rfl, hrr⟩ := hrel
    obtain ⟨F, s, hR⟩ := hrr.out
    have HRR := Lib.hid hR
    clear hR hrr
    by_cases hlt2 : k < n' ∧ k < 200
    · obtain ⟨hlt, hlt2⟩ := hlt2
      obtain ⟨b, off, rfl, hkl, -, -⟩ := HL.out.at_ hlt
      have HAK := Lib.hid (HL.out.acts _ (List.getElem_mem hkl))
      have HSK := Lib.hid (HS.out _ (List.getElem_mem hkl))
      have hld : (LoadS 48 (.pointer (some ⟨b, off + k * 9, none⟩))).run Tryd.prog wr = .ok (.agg (avArr acts[k])) wr := by obtain ⟨b', off', e9, hkl', h9, -⟩ := (HL.out.below HRR.out.bel).at_ hlt; cases e9; exact h9
      have hlt3 : (k : Int) < 200 := by omega
      generalize acts[k] = a at *
      have HSP := Lib.hid (HAK.out.small HSK.out)
      have hcp := copied_step HRR.out HAK.out HSK.out
      go_wp2_with (first
        | (go_at_call 11; refine hcp.mono ?_; clear hcp hld; rintro e w6 ⟨a', rfl, hb6, hd1⟩; have H6 := Lib.hid (HRR.out.below hb6); clear hb6)
        | (go_at_call 10; refine hd1.mono ?_; clear hd1; intro e w7 hq; obtain ⟨rfl, h7, -⟩ := H6.out.did HSP.out hq; have H7 := Lib.hid h7; clear hq h7))
      exact ⟨⟨k + 1, by omega, by omega, by go_num, _, _, H7.out⟩, by simp [intOf]; omega⟩
    · have hse1 := HRR.out.seen
      have hstop : (k < n' ∧ k = 200) ∨ k = n' := by omega
      rcases hstop with ⟨hlt, rfl⟩ | rfl
      · have hlt4 : ((200 : Nat) : Int) < (n' : Int) := by omega
        have HSX := trivial
        go_wp2_with (go_at_call 9; refine hse1.mono ?_; clear hse1; rintro e w4 ⟨A1, n1, c1, es, A2, n2, c2, A3, n3, c3, us, rfl, ho⟩; have ht := HRR.out.told ho; have hbw := (HRR.out.bel.trans (ho.bel.mono HRR.out.bel.size)).alloc (Nat.le_trans HRR.out.bel.size ho.bel.size) (.cells (ovArr ⟨A1, n1, c1, es, A2, n2, c2, s.users, A3, n3, c3, us⟩) 38); obtain ⟨W5, hW5⟩ : ∃ W5, W5 = w4.alloc (.cells (ovArr ⟨A1, n1, c1, es, A2, n2, c2, s.users, A3, n3, c3, us⟩) 38) := ⟨_, rfl⟩; rw [← hW5] at ht hbw; unfold ovArr at hW5; simp only at hW5; have HT := Lib.hid ht; have HBW := Lib.hid hbw; have HW5 := Lib.hid hW5; clear ho ht hbw hW5)
        rw [← HW5.out]
        have hnf : n1 ≤ 24 := HT.out.nf
        have hnu : n2 ≤ 16 := HT.out.nu
        have hnn : n3 ≤ 24 := HT.out.nn
        generalize s.users = users at *
        generalize w4.heap.size = v at *
        clear HW5 HRR HSX
        go_loopw [9] (fun i wr => ∃ k : Nat, 1 ≤ k ∧ k ≤ n1 + 1 ∧ i = .int .i64 (k : Int) ∧ Aside (Below W5.heap.size W5 wr)) (fun i _ => n1 + 1 - (intOf i).toNat)
        case atStart => exact ⟨1, Nat.le_refl _, by omega, rfl, Below.refl _ _⟩
        case round =>
          obtain ⟨k, hk1, hk, rfl, hb⟩ := hrel
          have hT := HT.out.below hb.out
          have m0 : wr.cell? ⟨v, 0, none⟩ = some (.slice A1 n1 c1) := hT.facts.1
          have m1 : wr.cell? ⟨v, 1, none⟩ = some (.slice A2 n2 c2) := hT.facts.2.1
          by_cases hlt : k < n1
          · obtain ⟨j, hj⟩ : ∃ j, j = k - 1 := ⟨_, rfl⟩
            have hjn : j < n1 := by omega
            obtain ⟨b, off, hA, hbB, hl, c0, _, _, _⟩ := hT.obs.files.at_ hlt
            obtain ⟨b', off', hA', hbB', hl', d0, _, _, _⟩ := hT.obs.files.at_ hjn
            simp only at hA hA' hl hl' c0 d0
            rw [hA] at hA'
            cases hA'
            subst hA
            have hwm : IntKind.i64.wrap ((k : Int) - 1) = (j : Int) := by rw [IntWalk.i64_in _ (by omega)]; omega
            have hlp : es[j].path < es[k].path := by
              have := rises_get hT.files (i := j) (j := k) (by simpa using hl') (by simpa using hl) (by omega)
              simpa using this
            generalize es[j] = x at *
            generalize es[k] = y at *
            have hcmp := less_str x.path y.path
            have hcmp2 := bytesLess_txt x.path y.path
            rw [decide_eq_true hlp] at hcmp hcmp2
            have HJ := Lib.hid hj
            clear hT hlp hj hbB hbB'
            go_wp2_with (fail)
            go_quiet (fail)
            go_wp2_with (fail)
            exact ⟨⟨k + 1, by omega, by omega, by go_num, bel_drewN hb.out _⟩, by simp [intOf]; omega⟩
          · clear hT
            go_wp2_with (fail)
            go_loopw [10] (fun i wr => ∃ k : Nat, 1 ≤ k ∧ k ≤ n2 + 1 ∧ i = .int .i64 (k : Int) ∧ Aside (Below W5.heap.size W5 wr)) (fun i _ => n2 + 1 - (intOf i).toNat)
            case atStart => exact ⟨1, Nat.le_refl _, by omega, rfl, hb.out⟩
            case round =>
              obtain ⟨q, hq1, hq, rfl, hb2⟩ := hrel
              have hT := HT.out.below hb2.out
              have m1 : wr.cell? ⟨v, 1, none⟩ = some (.slice A2 n2 c2) := hT.facts.2.1
              have m2 : wr.cell? ⟨v, 2, none⟩ = some (.slice A3 n3 c3) := hT.facts.2.2
              by_cases hlt : q < n2
              · obtain ⟨j, hj⟩ : ∃ j, j = q - 1 := ⟨_, rfl⟩
                have hjn : j < n2 := by omega
                obtain ⟨b, off, hA, hbB, hl, c0⟩ := txtAt hT.obs.users hlt
                obtain ⟨b', off', hA', hbB', hl', d0⟩ := txtAt hT.obs.users hjn
                simp only at hA hA' hl hl' c0 d0
                rw [hA] at hA'
                cases hA'
                subst hA
                have hwm : IntKind.i64.wrap ((q : Int) - 1) = (j : Int) := by rw [IntWalk.i64_in _ (by omega)]; omega
                have hlp : users[j] < users[q] := rises_get hT.users (i := j) (j := q) hl' hl (by omega)
                generalize users[j] = x at *
                generalize users[q] = y at *
                have hcmp := less_str x y
                have hcmp2 := bytesLess_txt x y
                rw [decide_eq_true hlp] at hcmp hcmp2
                have HJ := Lib.hid hj
                clear hT hlp hj hbB hbB'
                go_wp2_with (fail)
                go_quiet (fail)
                go_wp2_with (fail)
                exact ⟨⟨q + 1, by omega, by omega, by go_num, bel_drewN hb2.out _⟩, by simp [intOf]; omega⟩
              · clear hT
                go_wp2_with (fail)
                go_loopw [11] (fun i wr => ∃ k : Nat, k ≤ n3 ∧ i = .int .i64 (k : Int) ∧ Aside (Below W5.heap.size W5 wr)) (fun i _ => n3 - (intOf i).toNat)
                case atStart => exact ⟨0, Nat.zero_le _, rfl, hb2.out⟩
                case round =>
                  obtain ⟨r, hr, rfl, hb3⟩ := hrel
                  have hT := HT.out.below hb3.out
                  have m0 : wr.cell? ⟨v, 0, none⟩ = some (.slice A1 n1 c1) := hT.facts.1
                  have m1 : wr.cell? ⟨v, 1, none⟩ = some (.slice A2 n2 c2) := hT.facts.2.1
                  have m2 : wr.cell? ⟨v, 2, none⟩ = some (.slice A3 n3 c3) := hT.facts.2.2
                  by_cases hlt : r < n3
                  · obtain ⟨b, off, hA, hbB, hl, c0, c1', c2', c3', S1, S2⟩ := hT.obs.units.at_ hlt
                    simp only at hA hl c0 c1' c2' c3' S1 S2
                    subst hA
                    have hmu := hT.units us[r] (List.getElem_mem hl)
                    have hmy := refMay_any (w := wr) us[r] S1 S2 (Nat.le_refl _) (hT.lists us[r] (List.getElem_mem hl)) (mayU_short hmu).1 (mayU_short hmu).2
                    rw [hmu] at hmy
                    have HNE := Lib.hid (fun (j : Nat) (hj : j < us.length) (hjr : j < r) => unit_ne hT.names hl hj hjr)
                    generalize us[r] = u at *
                    obtain ⟨nm, st, rq, uA0, un0, uc0, af, uA1, un1, uc1⟩ := u
                    unfold svArr at hmy
                    simp only at c0 c1' c2' c3' hmy HNE
                    clear hT hmu S1 S2 hbB
                    go_wp2_with (go_at_call 13; refine hmy.mono ?_; clear hmy; rintro e w6 ⟨rfl, hb6⟩; have HB6 := Lib.hid (hb3.out.trans (hb6.mono hb3.out.size)); clear hb6)
                    go_loopw [13] (fun i wr => ∃ k : Nat, k ≤ r ∧ i = .int .i64 (k : Int) ∧ Aside (Below W5.heap.size W5 wr)) (fun i _ => r - (intOf i).toNat)
                    case atStart => exact ⟨0, Nat.zero_le _, rfl, HB6.out⟩
                    case round =>
                      obtain ⟨j, hj, rfl, hb4⟩ := hrel
                      by_cases hjr : j < r
                      · have hT := HT.out.below hb4.out
                        have m2 : wr.cell? ⟨v, 2, none⟩ = some (.slice (some ⟨b, off, none⟩) n3 c3) := hT.facts.2.2
                        obtain ⟨b', off', hA', hbB', hl', d0, _, _, _, _, _⟩ := hT.obs.units.at_ (show j < n3 by omega)
                        obtain ⟨b2, off2, hA2, hbB2, hl2, e0, _, _, _, _, _⟩ := hT.obs.units.at_ hlt
                        simp only at hA' hl' d0 hA2 hl2 e0
                        cases hA'
                        cases hA2
                        have hne := unit_ne hT.names hl2 hl' hjr
                        generalize us[j] = x at *
                        generalize us[r] = y at *
                        have t1 : (ByteArray.mk x.name.toArray).toList = x.name := Go.ByteArray.toList_eq _
                        have t2 : (ByteArray.mk y.name.toArray).toList = y.name := Go.ByteArray.toList_eq _
                        have hq : (x.name == y.name) = false := by simpa using hne
                        have hjn : j < n3 := by omega
                        clear hT hne HNE hbB' hbB2
                        go_wp2_with (fail)
                        go_quiet (fail)
                        go_wp2_with (fail)
                        exact ⟨⟨j + 1, by omega, by go_num, bel_drewN hb4.out _⟩, by simp [intOf]; omega⟩
                      · obtain rfl : j = r := by omega
                        go_wp2_with (fail)
                        exact ⟨⟨j + 1, by omega, by go_num, hb4.out⟩, by simp [intOf]; omega⟩
                  · have i1 : (n1 : Int) ≤ 24 := by omega
                    have i2 : (n2 : Int) ≤ 16 := by omega
                    have i3 : (n3 : Int) ≤ 24 := by omega
                    clear hT
                    go_wp2_with (fail)
                    go_ret
                    exact ⟨rfl, HBW.out.trans (hb3.out.mono HBW.out.size)⟩
      · have HSX := trivial
        go_wp2_with (go_at_call 9; refine hse1.mono ?_; clear hse1; rintro e w4 ⟨A1, n1, c1, es, A2, n2, c2, A3, n3, c3, us, rfl, ho⟩; have ht := HRR.out.told ho; have hbw := (HRR.out.bel.trans (ho.bel.mono HRR.out.bel.size)).alloc (Nat.le_trans HRR.out.bel.size ho.bel.size) (.cells (ovArr ⟨A1, n1, c1, es, A2, n2, c2, s.users, A3, n3, c3, us⟩) 38); obtain ⟨W5, hW5⟩ : ∃ W5, W5 = w4.alloc (.cells (ovArr ⟨A1, n1, c1, es, A2, n2, c2, s.users, A3, n3, c3, us⟩) 38) := ⟨_, rfl⟩; rw [← hW5] at ht hbw; unfold ovArr at hW5; simp only at hW5; have HT := Lib.hid ht; have HBW := Lib.hid hbw; have HW5 := Lib.hid hW5; clear ho ht hbw hW5)
        rw [← HW5.out]
        have hnf : n1 ≤ 24 := HT.out.nf
        have hnu : n2 ≤ 16 := HT.out.nu
        have hnn : n3 ≤ 24 := HT.out.nn
        generalize s.users = users at *
        generalize w4.heap.size = v at *
        clear HW5 HRR HSX
        go_loopw [9] (fun i wr => ∃ k : Nat, 1 ≤ k ∧ k ≤ n1 + 1 ∧ i = .int .i64 (k : Int) ∧ Aside (Below W5.heap.size W5 wr)) (fun i _ => n1 + 1 - (intOf i).toNat)
        case atStart => exact ⟨1, Nat.le_refl _, by omega, rfl, Below.refl _ _⟩
        case round =>
          obtain ⟨k, hk1, hk, rfl, hb⟩ := hrel
          have hT := HT.out.below hb.out
          have m0 : wr.cell? ⟨v, 0, none⟩ = some (.slice A1 n1 c1) := hT.facts.1
          have m1 : wr.cell? ⟨v, 1, none⟩ = some (.slice A2 n2 c2) := hT.facts.2.1
          by_cases hlt : k < n1
          · obtain ⟨j, hj⟩ : ∃ j, j = k - 1 := ⟨_, rfl⟩
            have hjn : j < n1 := by omega
            obtain ⟨b, off, hA, hbB, hl, c0, _, _, _⟩ := hT.obs.files.at_ hlt
            obtain ⟨b', off', hA', hbB', hl', d0, _, _, _⟩ := hT.obs.files.at_ hjn
            simp only at hA hA' hl hl' c0 d0
            rw [hA] at hA'
            cases hA'
            subst hA
            have hwm : IntKind.i64.wrap ((k : Int) - 1) = (j : Int) := by rw [IntWalk.i64_in _ (by omega)]; omega
            have hlp : es[j].path < es[k].path := by
              have := rises_get hT.files (i := j) (j := k) (by simpa using hl') (by simpa using hl) (by omega)
              simpa using this
            generalize es[j] = x at *
            generalize es[k] = y at *
            have hcmp := less_str x.path y.path
            have hcmp2 := bytesLess_txt x.path y.path
            rw [decide_eq_true hlp] at hcmp hcmp2
            have HJ := Lib.hid hj
            clear hT hlp hj hbB hbB'
            go_wp2_with (fail)
            go_quiet (fail)
            go_wp2_with (fail)
            exact ⟨⟨k + 1, by omega, by omega, by go_num, bel_drewN hb.out _⟩, by simp [intOf]; omega⟩
          · clear hT
            go_wp2_with (fail)
            go_loopw [10] (fun i wr => ∃ k : Nat, 1 ≤ k ∧ k ≤ n2 + 1 ∧ i = .int .i64 (k : Int) ∧ Aside (Below W5.heap.size W5 wr)) (fun i _ => n2 + 1 - (intOf i).toNat)
            case atStart => exact ⟨1, Nat.le_refl _, by omega, rfl, hb.out⟩
            case round =>
              obtain ⟨q, hq1, hq, rfl, hb2⟩ := hrel
              have hT := HT.out.below hb2.out
              have m1 : wr.cell? ⟨v, 1, none⟩ = some (.slice A2 n2 c2) := hT.facts.2.1
              have m2 : wr.cell? ⟨v, 2, none⟩ = some (.slice A3 n3 c3) := hT.facts.2.2
              by_cases hlt : q < n2
              · obtain ⟨j, hj⟩ : ∃ j, j = q - 1 := ⟨_, rfl⟩
                have hjn : j < n2 := by omega
                obtain ⟨b, off, hA, hbB, hl, c0⟩ := txtAt hT.obs.users hlt
                obtain ⟨b', off', hA', hbB', hl', d0⟩ := txtAt hT.obs.users hjn
                simp only at hA hA' hl hl' c0 d0
                rw [hA] at hA'
                cases hA'
                subst hA
                have hwm : IntKind.i64.wrap ((q : Int) - 1) = (j : Int) := by rw [IntWalk.i64_in _ (by omega)]; omega
                have hlp : users[j] < users[q] := rises_get hT.users (i := j) (j := q) hl' hl (by omega)
                generalize users[j] = x at *
                generalize users[q] = y at *
                have hcmp := less_str x y
                have hcmp2 := bytesLess_txt x y
                rw [decide_eq_true hlp] at hcmp hcmp2
                have HJ := Lib.hid hj
                clear hT hlp hj hbB hbB'
                go_wp2_with (fail)
                go_quiet (fail)
                go_wp2_with (fail)
                exact ⟨⟨q + 1, by omega, by omega, by go_num, bel_drewN hb2.out _⟩, by simp [intOf]; omega⟩
              · clear hT
                go_wp2_with (fail)
                go_loopw [11] (fun i wr => ∃ k : Nat, k ≤ n3 ∧ i = .int .i64 (k : Int) ∧ Aside (Below W5.heap.size W5 wr)) (fun i _ => n3 - (intOf i).toNat)
                case atStart => exact ⟨0, Nat.zero_le _, rfl, hb2.out⟩
                case round =>
                  obtain ⟨r, hr, rfl, hb3⟩ := hrel
                  have hT := HT.out.below hb3.out
                  have m0 : wr.cell? ⟨v, 0, none⟩ = some (.slice A1 n1 c1) := hT.facts.1
                  have m1 : wr.cell? ⟨v, 1, none⟩ = some (.slice A2 n2 c2) := hT.facts.2.1
                  have m2 : wr.cell? ⟨v, 2, none⟩ = some (.slice A3 n3 c3) := hT.facts.2.2
                  by_cases hlt : r < n3
                  · obtain ⟨b, off, hA, hbB, hl, c0, c1', c2', c3', S1, S2⟩ := hT.obs.units.at_ hlt
                    simp only at hA hl c0 c1' c2' c3' S1 S2
                    subst hA
                    have hmu := hT.units us[r] (List.getElem_mem hl)
                    have hmy := refMay_any (w := wr) us[r] S1 S2 (Nat.le_refl _) (hT.lists us[r] (List.getElem_mem hl)) (mayU_short hmu).1 (mayU_short hmu).2
                    rw [hmu] at hmy
                    have HNE := Lib.hid (fun (j : Nat) (hj : j < us.length) (hjr : j < r) => unit_ne hT.names hl hj hjr)
                    generalize us[r] = u at *
                    obtain ⟨nm, st, rq, uA0, un0, uc0, af, uA1, un1, uc1⟩ := u
                    unfold svArr at hmy
                    simp only at c0 c1' c2' c3' hmy HNE
                    clear hT hmu S1 S2 hbB
                    go_wp2_with (go_at_call 13; refine hmy.mono ?_; clear hmy; rintro e w6 ⟨rfl, hb6⟩; have HB6 := Lib.hid (hb3.out.trans (hb6.mono hb3.out.size)); clear hb6)
                    go_loopw [13] (fun i wr => ∃ k : Nat, k ≤ r ∧ i = .int .i64 (k : Int) ∧ Aside (Below W5.heap.size W5 wr)) (fun i _ => r - (intOf i).toNat)
                    case atStart => exact ⟨0, Nat.zero_le _, rfl, HB6.out⟩
                    case round =>
                      obtain ⟨j, hj, rfl, hb4⟩ := hrel
                      by_cases hjr : j < r
                      · have hT := HT.out.below hb4.out
                        have m2 : wr.cell? ⟨v, 2, none⟩ = some (.slice (some ⟨b, off, none⟩) n3 c3) := hT.facts.2.2
                        obtain ⟨b', off', hA', hbB', hl', d0, _, _, _, _, _⟩ := hT.obs.units.at_ (show j < n3 by omega)
                        obtain ⟨b2, off2, hA2, hbB2, hl2, e0, _, _, _, _, _⟩ := hT.obs.units.at_ hlt
                        simp only at hA' hl' d0 hA2 hl2 e0
                        cases hA'
                        cases hA2
                        have hne := unit_ne hT.names hl2 hl' hjr
                        generalize us[j] = x at *
                        generalize us[r] = y at *
                        have t1 : (ByteArray.mk x.name.toArray).toList = x.name := Go.ByteArray.toList_eq _
                        have t2 : (ByteArray.mk y.name.toArray).toList = y.name := Go.ByteArray.toList_eq _
                        have hq : (x.name == y.name) = false := by simpa using hne
                        have hjn : j < n3 := by omega
                        clear hT hne HNE hbB' hbB2
                        go_wp2_with (fail)
                        go_quiet (fail)
                        go_wp2_with (fail)
                        exact ⟨⟨j + 1, by omega, by go_num, bel_drewN hb4.out _⟩, by simp [intOf]; omega⟩
                      · obtain rfl : j = r := by omega
                        go_wp2_with (fail)
                        exact ⟨⟨j + 1, by omega, by go_num, hb4.out⟩, by simp [intOf]; omega⟩
                  · have i1 : (n1 : Int) ≤ 24 := by omega
                    have i2 : (n2 : Int) ≤ 16 := by omega
                    have i3 : (n3 : Int) ≤ 24 := by omega
                    clear hT
                    go_wp2_with (fail)
                    go_ret
                    exact ⟨rfl, HBW.out.trans (hb3.out.mono HBW.out.size)⟩
end
end Go.Proofs.YtibndaianhlcaaaDoor
namespace Go.Proofs.YtibndaianhlcaaaDoor
open Go.ChangeShapes Go.WideShapes
set_option linter.unusedVariables false
set_option linter.unusedSimpArgs false

namespace Bulk
theorem one_le {H : Type} (d : DataW H) : 1 ≤ Rows.uptoBulk d := by
  cases d with
  | lit l => cases l <;> simp [Rows.uptoBulk]
  | nil => simp [Rows.uptoBulk]
  | ptr d => simp [Rows.uptoBulk]
  | slice elems spare => simp [Rows.uptoBulk]
  | agg parts => simp [Rows.uptoBulk]
  | iface t d => simp [Rows.uptoBulk]
  | map entries => simp [Rows.uptoBulk]
  | held h => simp [Rows.uptoBulk]
theorem part_le {H : Type} {d : DataW H} {l : List (DataW H)} (h : d ∈ l) : Rows.uptoBulk d ≤ Rows.uptoBulkAll l := by
  induction l with
  | nil => cases h
  | cons x r ih =>
    simp only [Rows.uptoBulkAll]
    cases List.mem_cons.1 h with
    | inl e => subst e; omega
    | inr e => have := ih e; omega
theorem length_le {H : Type} (l : List (DataW H)) : l.length ≤ Rows.uptoBulkAll l := by
  induction l with
  | nil => simp [Rows.uptoBulkAll]
  | cons x r ih => have := one_le x; simp only [Rows.uptoBulkAll, List.length_cons]; omega
theorem slice_elems {H : Type} (elems spare : List (DataW H)) : Rows.uptoBulkAll elems + 1 ≤ Rows.uptoBulk (.slice elems spare) := by
  simp only [Rows.uptoBulk]
  omega
theorem agg {H : Type} (l : List (DataW H)) : Rows.uptoBulkAll l + 1 = Rows.uptoBulk (.agg l) := by simp only [Rows.uptoBulk]
theorem string_eq {H : Type} (bytes : List UInt8) : Rows.uptoBulk (DataW.lit (H := H) (.string bytes)) = bytes.length + 1 := by
  simp [Rows.uptoBulk]
theorem bound {H : Type} {l : List (DataW H)} (hk : Rows.uptoSmall H l = true) : Rows.uptoBulkAll l ≤ 1048576 := by
  simpa [Rows.uptoSmall] using hk
theorem slice_spare {H : Type} (elems spare : List (DataW H)) : elems.length + spare.length + 1 ≤ Rows.uptoBulk (.slice elems spare) := by
  have h1 := length_le elems
  have h2 := length_le spare
  simp only [Rows.uptoBulk]
  omega
end Bulk
end Go.Proofs.YtibndaianhlcaaaDoor
