/- The reference of layer 20: file, the walk. -/
import Derived.Test.YtibndaianhlcaaaGreatDoorPart27
namespace Go.Proofs.YtibndaianhlcaaaGreatDoor
open Go.RowKit Go.Sort Go.Shelf
set_option linter.unusedVariables false
set_option linter.unusedSimpArgs false

section
variable {w w' : World} {R : Nat → Prop} {r : Nat} {s : Mach} {o : OV} {pA : Option Addr} {pn pc : Nat}
theorem path_at {es : List EV} {k : Nat} (hk : k < es.length) : (es.map (·.path))[k]'(by simpa using hk) = es[k].path := by simp
theorem RFMid.held {W : World} {v : Nat} {x : EV} {name : Txt} (M : RFMid w R W r s o pA pn pc v x name) : W.cell? ⟨r, 0, none⟩ = some (.slice o.A o.n o.c) ∧ W.cell? ⟨v, 0, none⟩ = some (.string ⟨x.path.toArray⟩) ∧ W.cell? ⟨v, 1, none⟩ = some (.int .i64 x.kind) ∧ W.cell? ⟨v, 2, none⟩ = some (.slice x.A x.n x.c) := ⟨M.ref.facts.1, M.facts⟩
theorem ins_row (es : List EV) (k : Nat) (x : EV) : (es.flatMap evCells).take (k * 3) ++ (evArr x).toList ++ (es.flatMap evCells).drop (k * 3) = (insA es k x).flatMap evCells := by
  have h := flatMap_take evCells 3 es k (fun o _ => evCells_length o)
  rw [ins_flat, h.1, h.2]
  rfl
theorem RFMid.ins {W w9 : World} {v : Nat} {x : EV} {name : Txt} (h : RFMid w R W r s o pA pn pc v x name) (hrw : r < w.heap.size) (hb9 : Below W.heap.size W w9) {A9 : Option Addr} {c9 k : Nat} (ho : w9.ownsRow W.heap.size 35 3 (.slice A9 (o.n + 1) c9) (o.n + 1) ((o.es.flatMap evCells).take (k * 3) ++ (evArr x).toList ++ (o.es.flatMap evCells).drop (k * 3))) :
    RefPost w R r (⟨insA s.files k x.ent, s.users, s.units, s.plan⟩, 0) (.returned (.int .i64 0)) (w9.setCell ⟨r, 0, none⟩ (.slice A9 (o.n + 1) c9)) := by
  rw [ins_row] at ho
  have := h.put hrw hb9 ho (fun e he => mem_ins he)
  rwa [ins_ents, h.ref.ents] at this
section
attribute [local go_sem ↓] slice_mark_ent
set_option maxRecDepth 100000 in
set_option maxHeartbeats 4000000 in
theorem refFile20_any (h : RefV w R r s o pA pn pc) (hn : o.n ≤ 1000000) {B : Nat} (a : AV) (hx : Slc w B 1 a.file.A a.file.n a.file.c (a.file.data.map bv)) (hB : B ≤ w.heap.size) (hs : SmallA a) :
    Calls Tryz.prog 53 #[.pointer (some ⟨r, 0, none⟩), .agg (avArr a)] w (RefPost w R r (doFile s a.name a.file.ent)) := by
  have hl := h.lens
  have hrw := h.blk.lt
  obtain ⟨W1, hW1⟩ : ∃ W1, W1 = w.alloc (.cells (avArr a) 61) := ⟨_, rfl⟩
  obtain ⟨W2, hW2⟩ : ∃ W2, W2 = W1.alloc (.cells (evArr a.file) 35) := ⟨_, rfl⟩
  have hb1 : Below w.heap.size w W1 := by rw [hW1]; exact (Below.refl _ w).alloc (Nat.le_refl _) _
  have hz1 : W1.heap.size = w.heap.size + 1 := by rw [hW1]; simp
  have hb2 : Below w.heap.size w W2 := by rw [hW2]; exact hb1.alloc (by omega) _
  have hG1 : Blk W1 w.heap.size 61 (avArr a) := by rw [hW1]; exact Blk.new _ _ _
  have hG2 : Blk W2 w.heap.size 61 (avArr a) := by rw [hW2]; exact hG1.alloc _
  have hX2 : Blk W2 (w.heap.size + 1) 35 (evArr a.file) := by rw [← hz1, hW2]; exact Blk.new _ _ _
  have hE2 : EntsAt W2 W2.heap.size (some ⟨w.heap.size + 1, 0, none⟩) 1 1 [a.file] := by
    refine ⟨(hX2.slc (sz := 3) (n := 1) (c := 1) (Nat.le_refl _) (Nat.le_refl _) (by decide)).more hX2.lt, rfl, fun e he => ?_⟩
    rw [List.mem_singleton.1 he]
    exact (hx.below (hb2.mono hB)).more (Nat.le_trans hB hb2.size)
  have hright := refRight08_any hE2 (Nat.le_refl _) (fun e he => by rw [List.mem_singleton.1 he]; exact hs.path)
  rw [show [a.file].map EV.ent = [a.file.ent] from rfl] at hright
  have fin : Hid (∀ k w', Below w.heap.size w w' → RefPost w R r (s, k) (.returned (.int .i64 k)) w') := fun k w' hb => ⟨rfl, ⟨_, _, _, _, (h.below hb).wide (fn_wide _ _ _) (h.fn w')⟩, (Step.of_below hb (fun k => k = r))⟩
  have hmid : Hid (∀ {w3 : World}, Below W2.heap.size W2 w3 → _) := fun hb => rfile_mid h hG2 hb2 hb hx hB hs.lens.1
  have HB2 := Lib.hid hb2
  have HL := Lib.hid hl
  have HEN := Lib.hid h.ents
  have HN := Lib.hid hn
  have x1 := hG1.cell 1
  have x2 := hG1.cell 2
  have x3 := hG1.cell 3
  have x4 := hG1.cell 4
  have HG2 := Lib.hid hG2
  obtain ⟨kind, name, ⟨fp, fk, fd, fA, fn, fc⟩, ⟨nm, st, rq, A', n', c', af, A2', n2', c2'⟩⟩ := a
  rw [hW2, hW1] at hright
  rw [hW1] at x1 x2 x3 x4
  have hWW := hW2
  rw [hW1] at hWW
  unfold avArr evArr at hWW
  unfold avArr evArr at hright
  unfold avArr at x1 x2 x3 x4 ⊢
  unfold EV.ent at hright ⊢
  simp only at hWW hright ⊢
  simp only [List.getElem?_toArray, List.getElem?_cons_zero, List.getElem?_cons_succ] at x1 x2 x3 x4
  have HWW := Lib.hid hWW
  have tn : (ByteArray.mk name.toArray).toList = name := Go.ByteArray.toList_eq _
  have tm : (ByteArray.mk fp.toArray).toList = fp := Go.ByteArray.toList_eq _
  clear h hl hn hx hB hs hb1 hz1 hb2 hG1 hG2 hX2 hE2 hW1 hW2 hWW
  cases hm : rightB [⟨fp, fk, fd⟩] with
  | false =>
    rw [hm] at hright
    have HX := Lib.hid (show doFile s name ⟨fp, fk, fd⟩ = (s, 70) by unfold doFile; rw [if_neg (fun h9 => by rw [hm] at h9; exact absurd h9.2 (by decide))])
    clear hm hmid
    go_enter Tryz.func53, Tryz.ntmps53
    go_wp2_with (go_at_call 44; refine hright.mono ?_; clear hright; rintro e w3 ⟨rfl, hb3⟩; rw [← HWW.out] at hb3)
    go_ret
    rw [HX.out]
    exact fin.out 70 _ (HB2.out.trans (hb3.mono HB2.out.size))
  | true =>
    rw [hm] at hright
    cases hnm : (name == fp) with
    | false =>
      have HX := Lib.hid (show doFile s name ⟨fp, fk, fd⟩ = (s, 70) by unfold doFile; rw [if_neg (fun h9 => by rw [h9.1] at hnm; simp at hnm)])
      clear hm hmid
      go_enter Tryz.func53, Tryz.ntmps53
      go_wp2_with (go_at_call 44; refine hright.mono ?_; clear hright; rintro e w3 ⟨rfl, hb3⟩; rw [← HWW.out] at hb3; have hG3 := HG2.out.below hb3 HG2.out.lt; have y1 := hG3.cell 1; have y2 := hG3.cell 2; unfold avArr at y1 y2; simp only [List.getElem?_toArray, List.getElem?_cons_zero, List.getElem?_cons_succ] at y1 y2; clear hG3)
      go_ret
      rw [HX.out]
      exact fin.out 70 _ (HB2.out.trans (hb3.mono HB2.out.size))
    | true =>
      have hnm' : name = fp := by simpa using hnm
      subst hnm'
      have HM := Lib.hid hm
      clear hm hnm
      go_enter Tryz.func53, Tryz.ntmps53
      go_wp2_with (first
        | (go_at_call 44; refine hright.mono ?_; clear hright; rintro e w3 ⟨rfl, hb3⟩; rw [← HWW.out] at hb3; obtain ⟨g4, c4, w6, hr6, q2, qf2, ql, M⟩ := hmid.out hb3; have HR6 := Lib.hid hr6; obtain ⟨W7, hW7⟩ : ∃ W7, W7 = w6.setCell ⟨w3.heap.size, 2, none⟩ (.slice (some ⟨g4, 0, none⟩) fn c4) := ⟨_, rfl⟩; simp only at M; rw [← hW7] at M; have HMM := Lib.hid M; have HW7 := Lib.hid hW7; have hG3 := HG2.out.below hb3 HG2.out.lt; have y1 := hG3.cell 1; have y2 := hG3.cell 2; have y3 := hG3.cell 3; have y4 := hG3.cell 4; unfold avArr at y1 y2 y3 y4; unfold evArr at HR6; simp only [List.getElem?_toArray, List.getElem?_cons_zero, List.getElem?_cons_succ] at y1 y2 y3 y4; simp only at q2 HR6; have yl := hG3.lt; have HB3 := Lib.hid hb3; clear hG3 hr6 M hb3 hW7)
        | (at_builtin; refine wpList_append_run rfl _ _ _ rfl rfl rfl HR6.out ?_; clear HR6))
      rw [← HW7.out]
      generalize w3.heap.size = v at *
      obtain ⟨A, n, c, es, A2, n2, c2, users, A3, n3, c3, us⟩ := o
      obtain ⟨L, hL⟩ : ∃ L, L = es.map (·.path) := ⟨_, rfl⟩
      have hLs : L = pathsE s.files := by rw [hL, paths_ents]; exact congrArg pathsE HEN.out
      have hLn : L.length = n := by rw [hL, List.length_map]; exact HL.out.2.1
      have hfn : s.files.length = n := HL.out.1
      have hn6 : n ≤ 1000000 := HN.out
      have HLE := Lib.hid hL
      have HLN := Lib.hid hLn
      have HFN := Lib.hid hfn
      have HD : Hid (∀ k, aheadN L name = k → doFile s name ⟨name, fk, fd⟩ = if L[k]? = some name then (⟨s.files.set k ⟨name, fk, fd⟩, s.users, s.units, s.plan⟩, 0) else if s.files.length = 24 then (s, 70) else (⟨insA s.files k ⟨name, fk, fd⟩, s.users, s.units, s.plan⟩, 0)) := fun k hk => by
        unfold doFile
        rw [if_pos ⟨rfl, HM.out⟩, ← hLs, hk]
      clear hL hLs hLn hfn hmid y1 y2 y3 y4 yl ql qf2 q2 x1 x2 x3 x4 HG2 HWW HB3 HW7 HM
      go_loopw [7] (fun i wr => ∃ k : Nat, k ≤ n ∧ i = .int .i64 (k : Int) ∧ Aside (∃ q, wr = W7.drewN q) ∧ Aside (∀ j (hj : j < L.length), j < k → L[j] < name)) (fun i _ => n - (intOf i).toNat)
      case atStart => exact ⟨0, Nat.zero_le _, rfl, ⟨0, rfl⟩, fun j _ h => absurd h (Nat.not_lt_zero _)⟩
      case round =>
        obtain ⟨k, hk, rfl, hdr, hlo⟩ := hrel
        have hbw : Below W7.heap.size W7 wr := by obtain ⟨q0, hq0⟩ := hdr.out; rw [hq0]; exact dr_below _ _
        have HBW := Lib.hid hbw
        have HMw := Lib.hid (HMM.out.below hbw)
        have m0 : wr.cell? ⟨r, 0, none⟩ = some (.slice A n c) := HMw.out.ref.facts.1
        have b1 := HMw.out.box1
        have hEn := HMw.out.ref.obs.at_.files
        have hrl := HMw.out.ref.blk.lt
        clear hbw
        by_cases hlt : k < n
        · obtain ⟨b, off, hA, hbB, hl, c0, c1', c2', hS⟩ := hEn.at_ hlt
          simp only at hA hl c0
          have hkL : k < L.length := by rw [HLN.out]; exact hlt
          have e1 : L[k] = es[k].path := by have := HLE.out; subst this; simp
          have HLO := Lib.hid (fun (e : L[k] < name) => show ∀ j (hj : j < L.length), j < k + 1 → L[j] < name from fun j hj hjk => by
            rcases Nat.lt_or_ge j k with h | h
            · exact hlo.out j hj h
            · obtain rfl : j = k := by omega
              exact e)
          have HHI := Lib.hid (fun (e : ¬ L[k] < name) => aheadN_eq L name k (by have := HLN.out; omega) hlo.out (fun _ => e))
          have HGE := Lib.hid (show L[k]? = some es[k].path by rw [List.getElem?_eq_getElem hkL, e1])
          rw [e1] at HLO HHI
          subst hA
          clear e1 c1' c2' hS hEn
          generalize es[k] = x at *
          have tx : (ByteArray.mk x.path.toArray).toList = x.path := Go.ByteArray.toList_eq _
          have hcmp := less_str x.path name
          have hcmp2 := bytesLess_txt x.path name
          by_cases hxl : x.path < name
          · rw [decide_eq_true hxl] at hcmp hcmp2
            have HT := Lib.hid (HLO.out hxl)
            clear hxl
            go_wp2
            go_quiet (fail)
            go_wp2
            exact ⟨⟨k + 1, by omega, by go_num, drewN_more hdr.out _, HT.out⟩, by simp [intOf]; omega⟩
          · rw [decide_eq_false hxl] at hcmp hcmp2
            have HK := Lib.hid (HHI.out hxl)
            clear hxl
            cases hxe : (x.path == name) with
            | true =>
              have HX := Lib.hid (show doFile s name ⟨name, fk, fd⟩ = (⟨s.files.set k ⟨name, fk, fd⟩, s.users, s.units, s.plan⟩, 0) by rw [HD.out k HK.out, if_pos (by rw [HGE.out]; congr 1; simpa using hxe)])
              go_wp2
              go_quiet (fail)
              generalize hwx1 : wr.drewN _ = wx1
              have hbx1 : Below wr.heap.size wr wx1 := by rw [← hwx1]; exact dr_below _ _
              have m01 : wx1.cell? ⟨r, 0, none⟩ = some (.slice (some ⟨b, off, none⟩) n c) := (hbx1.cell (p := ⟨r, 0, none⟩) hrl).trans m0
              have b11 : wx1.cell? ⟨w.heap.size, 1, none⟩ = some (.string ⟨name.toArray⟩) := (hbx1.cell (p := ⟨w.heap.size, 1, none⟩) HMw.out.blt).trans b1
              have c01 : wx1.cell? ⟨b, off + k * 3, none⟩ = some (.string ⟨x.path.toArray⟩) := (hbx1.cell (p := ⟨b, off + k * 3, none⟩) hbB).trans c0
              have HBX1 := Lib.hid hbx1
              clear hwx1 hbx1
              go_wp2
              go_quiet (fail)
              generalize hwx : wx1.drewN _ = wx
              have hbx : Below wr.heap.size wr wx := by rw [← hwx]; exact bel_drewN HBX1.out _
              have HMx := Lib.hid (HMw.out.below hbx)
              have hbwx : Below w.heap.size w wx := HMx.out.bel
              have n0 : wx.cell? ⟨r, 0, none⟩ = some (.slice (some ⟨b, off, none⟩) n c) := HMx.out.ref.facts.1
              have nf0 := HMx.out.ref.facts.2.2.2.2 0
              have hrx := HMx.out.ref.blk.lt
              have hvx := HMx.out.var.lt
              obtain ⟨v0, v1, v2⟩ := HMx.out.facts
              simp only at v0 v1 v2
              have hEx := HMx.out.ref.obs.at_.files
              simp only at hEx
              clear hwx
              obtain ⟨A8, c8, w8, r8, o8, b8, _, hz8⟩ := put_one rowT_ent (w := wx) (W := wx.alloc (.cells #[] 35)) hEx.slc (Nat.le_refl _) (evCells_one es) (by omega) (bel_new _ _) (heap_alloc_new wx _) (Nat.le_refl _)
              obtain ⟨g8, hA8, hrg, hvg, hn8, hm8, q1, q2, HP⟩ := HMx.out.over hrw b8 o8 hlt
              subst hA8
              obtain ⟨u0, q10⟩ : ∃ u, w8.cell? ⟨g8, k * 3, none⟩ = some u := q1 0 (by decide)
              obtain ⟨u1, q11⟩ : ∃ u, w8.cell? ⟨g8, k * 3 + 1, none⟩ = some u := q1 1 (by decide)
              obtain ⟨u2, q12⟩ : ∃ u, w8.cell? ⟨g8, k * 3 + 2, none⟩ = some u := q1 2 (by decide)
              have q20 := q2 (k * 3)
              have q21 := q2 (k * 3 + 1)
              have q22 := q2 (k * 3 + 2)
              obtain ⟨t0, t1, t2⟩ := (HMx.out.below b8).facts
              simp only at t0 t1 t2
              have n8 : w8.cell? ⟨r, 0, none⟩ = some (.slice (some ⟨b, off, none⟩) n c) := (HMx.out.below b8).ref.facts.1
              have nf8 := (HMx.out.below b8).ref.facts.2.2.2.2 0
              have hcc : k ≤ 1000000 := by omega
              have hn62 : c8 ≤ 9223372036854775807 := by have h9 := hm8; unfold maxLen at h9; omega
              have HR8 := Lib.hid r8
              have HPP := Lib.hid HP
              clear r8 o8 b8 HP q1 q2 hEx
              go_wp2_with (at_builtin; refine wpList_append_run rfl _ _ _ rfl rfl rfl HR8.out ?_; clear HR8)
              go_ret
              rw [HX.out]
              have hpp := HPP.out
              rw [set_ents, show es.map EV.ent = s.files from HEN.out] at hpp
              exact hpp
            | false =>
              have HNE := Lib.hid (show ¬ L[k]? = some name by rw [HGE.out]; intro h; injection h with h; rw [h] at hxe; simp at hxe)
              by_cases h24 : n = 24
              · have HX := Lib.hid (show doFile s name ⟨name, fk, fd⟩ = (s, 70) by rw [HD.out k HK.out, if_neg HNE.out, if_pos (by have := HFN.out; omega)])
                have h24b : ((n : Int) == 24) = true := by rw [h24]; rfl
                clear h24
                go_wp2
                go_quiet (fail)
                generalize hwx1 : wr.drewN _ = wx1
                have hbx1 : Below wr.heap.size wr wx1 := by rw [← hwx1]; exact dr_below _ _
                have m01 : wx1.cell? ⟨r, 0, none⟩ = some (.slice (some ⟨b, off, none⟩) n c) := (hbx1.cell (p := ⟨r, 0, none⟩) hrl).trans m0
                have b11 : wx1.cell? ⟨w.heap.size, 1, none⟩ = some (.string ⟨name.toArray⟩) := (hbx1.cell (p := ⟨w.heap.size, 1, none⟩) HMw.out.blt).trans b1
                have c01 : wx1.cell? ⟨b, off + k * 3, none⟩ = some (.string ⟨x.path.toArray⟩) := (hbx1.cell (p := ⟨b, off + k * 3, none⟩) hbB).trans c0
                have HBX1 := Lib.hid hbx1
                clear hwx1 hbx1
                go_wp2
                go_quiet (fail)
                generalize hwx : wx1.drewN _ = wx
                have hbx : Below wr.heap.size wr wx := by rw [← hwx]; exact bel_drewN HBX1.out _
                have HMx := Lib.hid (HMw.out.below hbx)
                have hbwx : Below w.heap.size w wx := HMx.out.bel
                have n0 : wx.cell? ⟨r, 0, none⟩ = some (.slice (some ⟨b, off, none⟩) n c) := HMx.out.ref.facts.1
                have nf0 := HMx.out.ref.facts.2.2.2.2 0
                have hrx := HMx.out.ref.blk.lt
                have hvx := HMx.out.var.lt
                clear hwx
                clear hbx
                go_wp2_with (fail)
                go_ret
                rw [HX.out]
                exact fin.out 70 _ hbwx
              · have HX := Lib.hid (show doFile s name ⟨name, fk, fd⟩ = (⟨insA s.files k ⟨name, fk, fd⟩, s.users, s.units, s.plan⟩, 0) by rw [HD.out k HK.out, if_neg HNE.out, if_neg (by have := HFN.out; omega)])
                have h24b : ((n : Int) == 24) = false := by rw [beq_eq_false_iff_ne]; omega
                clear h24
                go_wp2
                go_quiet (fail)
                generalize hwx1 : wr.drewN _ = wx1
                have hbx1 : Below wr.heap.size wr wx1 := by rw [← hwx1]; exact dr_below _ _
                have m01 : wx1.cell? ⟨r, 0, none⟩ = some (.slice (some ⟨b, off, none⟩) n c) := (hbx1.cell (p := ⟨r, 0, none⟩) hrl).trans m0
                have b11 : wx1.cell? ⟨w.heap.size, 1, none⟩ = some (.string ⟨name.toArray⟩) := (hbx1.cell (p := ⟨w.heap.size, 1, none⟩) HMw.out.blt).trans b1
                have c01 : wx1.cell? ⟨b, off + k * 3, none⟩ = some (.string ⟨x.path.toArray⟩) := (hbx1.cell (p := ⟨b, off + k * 3, none⟩) hbB).trans c0
                have HBX1 := Lib.hid hbx1
                clear hwx1 hbx1
                go_wp2
                go_quiet (fail)
                generalize hwx : wx1.drewN _ = wx
                have hbx : Below wr.heap.size wr wx := by rw [← hwx]; exact bel_drewN HBX1.out _
                have HMx := Lib.hid (HMw.out.below hbx)
                have hbwx : Below w.heap.size w wx := HMx.out.bel
                have n0 : wx.cell? ⟨r, 0, none⟩ = some (.slice (some ⟨b, off, none⟩) n c) := HMx.out.ref.facts.1
                have nf0 := HMx.out.ref.facts.2.2.2.2 0
                have hrx := HMx.out.ref.blk.lt
                have hvx := HMx.out.var.lt
                clear hwx
                have hnc := HMx.out.ref.obs.at_.files.slc.le
                have HSLC := Lib.hid HMx.out.ref.obs.at_.files.slc
                simp only at hnc
                obtain ⟨xc, hxc⟩ : ∃ xc : Array Value, xc = evArr ⟨name, fk, fd, some ⟨g4, 0, none⟩, fn, c4⟩ := ⟨_, rfl⟩
                have hx3 : xc.size = 3 := by rw [hxc]; rfl
                have hx1 : ∀ u ∈ xc.toList, u.oneCell' = true := by rw [hxc]; exact fun u hu => evCells_one [⟨name, fk, fd, some ⟨g4, 0, none⟩, fn, c4⟩] u (by simpa [evArr, evCells] using hu)
                obtain ⟨a1, ac1, aw1, a2, ac2, aw2, a3, ac3, aw3, SA⟩ := put3_a rowT_ent (w := wx) HSLC.out (Nat.le_refl _) (evCells_one es) hn6 hk hx3 hx1
                obtain ⟨b1', bc1, bw1, b2, bc2, bw2, b3, bc3, bw3, SB⟩ := put3_b rowT_ent (w := wx) HSLC.out (Nat.le_refl _) (evCells_one es) hn6 hk hx3 hx1
                obtain ⟨d1, dc1, dw1, d2, dc2, dw2, d3, dc3, dw3, SC⟩ := put3_c rowT_ent (w := wx) HSLC.out (Nat.le_refl _) (evCells_one es) hn6 hk hx3 hx1
                subst hxc
                have HPA := Lib.hid (HMx.out.ins hrw SA.bel SA.own)
                have HPB := Lib.hid (HMx.out.ins hrw SB.bel SB.own)
                have HPC := Lib.hid (HMx.out.ins hrw SC.bel SC.own)
                have HA1 := Lib.hid SA.r1
                have HA2 := Lib.hid SA.r2
                have HA3 := Lib.hid SA.r3
                have HB1' := Lib.hid SB.r1
                have HB2' := Lib.hid SB.r2
                have HB3' := Lib.hid SB.r3
                have HC1 := Lib.hid SC.r1
                have HC2 := Lib.hid SC.r2
                have HC3 := Lib.hid SC.r3
                have HSA := Lib.hid SA
                have HSB := Lib.hid SB
                have HSC := Lib.hid SC
                have na3 := (HMx.out.below SA.bel).ref.facts.2.2.2.2 0
                have nb3 := (HMx.out.below SB.bel).ref.facts.2.2.2.2 0
                have nc3 := (HMx.out.below SC.bel).ref.facts.2.2.2.2 0
                unfold evArr at HA1 HA2 HA3 HB1' HB2' HB3' HC1 HC2 HC3
                have hcl := cut_low rowT_ent (A := (some ⟨b, off, none⟩)) (n := n) (c := c) (k := k) (z := (k : Int)) rfl (by omega)
                have hch := cut_high rowT_ent (A := (some ⟨b, off, none⟩)) (n := n) (c := c) (k := k) (z := (k : Int)) rfl (by omega)
                clear SA SB SC hx1 hx3 m0 b1 m01 b11 hbx
                go_wp2_with (fail)
                refine wp_region_K (fun W' => W'.cell? ⟨r, 0, none⟩ = some (.slice (some ⟨b, off, none⟩) n c) ∧ W'.cell? ⟨v, 0, none⟩ = some (.string ⟨name.toArray⟩) ∧ W'.cell? ⟨v, 1, none⟩ = some (.int .i64 fk) ∧ W'.cell? ⟨v, 2, none⟩ = some (.slice (some ⟨g4, 0, none⟩) fn c4)) 24 (by kernel_rfl) HMx.out.held (fun hS9 => ?_)
                try simp only [Act.put, List.setIfInBounds_toArray, List.set_cons_zero, List.set_cons_succ]
                refine wpAnyK_take (i := 0) (v := ?_) [21, 22, 23, 24] rfl (by kernel_rfl) (fun _ _ _ h => h) (Or.inl ⟨by rfl, ?_⟩) (by assumption) ?_
                rotate_left
                focus (intro w9 hSw; (try dsimp only at hSw); go_simp; (try with_reducible rfl))
                try simp only [Act.put, List.setIfInBounds_toArray, List.set_cons_zero, List.set_cons_succ]
                refine wpAnyK_take (i := 2) (v := ?_) [3, 4, 5, 6, 8, 9, 12, 20, 24] rfl (by kernel_rfl) (fun _ _ _ h => h) (Or.inl ⟨by rfl, ?_⟩) (by assumption) ?_
                rotate_left
                focus (intro w9 hSw; (try dsimp only at hSw); go_simp; (try with_reducible rfl))
                try simp only [Act.put, List.setIfInBounds_toArray, List.set_cons_zero, List.set_cons_succ]
                refine wpAnyK_take (i := 3) (v := ?_) [4, 5, 6, 8, 9, 12, 20, 24] rfl (by kernel_rfl) (fun _ _ _ h => h) (Or.inl ⟨by rfl, ?_⟩) (by assumption) ?_
                rotate_left
                focus (intro w9 hSw; (try dsimp only at hSw); go_simp; (try with_reducible rfl))
                try simp only [Act.put, List.setIfInBounds_toArray, List.set_cons_zero, List.set_cons_succ]
                refine wpAnyK_take (i := 4) (v := ?_) [5, 6, 8, 9, 12, 20, 24] rfl (by kernel_rfl) (fun _ _ _ h => h) (Or.inl ⟨by rfl, ?_⟩) (by assumption) ?_
                rotate_left
                focus (intro w9 hSw; (try dsimp only at hSw); go_simp; (try with_reducible rfl))
                try simp only [Act.put, List.setIfInBounds_toArray, List.set_cons_zero, List.set_cons_succ]
                refine wpAnyK_take (i := 5) (v := ?_) [6, 8, 9, 12, 20, 24] rfl (by kernel_rfl) (fun _ _ _ h => h) (Or.inl ⟨by rfl, ?_⟩) (by assumption) ?_
                rotate_left
                focus (intro w9 hSw; (try dsimp only at hSw); go_simp; (try with_reducible rfl))
                try simp only [Act.put, List.setIfInBounds_toArray, List.set_cons_zero, List.set_cons_succ]
                refine wpAnyK_take (i := 6) (v := ?_) [8, 9, 12, 20, 24] rfl (by kernel_rfl) (fun _ _ _ h => h) (Or.inl ⟨by rfl, ?_⟩) (by assumption) ?_
                rotate_left
                focus (intro w9 hSw; (try dsimp only at hSw); go_simp; (try with_reducible rfl))
                try simp only [Act.put, List.setIfInBounds_toArray, List.set_cons_zero, List.set_cons_succ]
                refine wpAnyK_take (i := 7) (v := ?_) [8, 9, 12, 20, 24] rfl (by kernel_rfl) (fun _ _ _ h => h) (Or.inl ⟨by rfl, ?_⟩) (by assumption) ?_
                rotate_left
                focus (intro w9 hSw; (try dsimp only at hSw); go_simp; (try with_reducible rfl))
                try simp only [Act.put, List.setIfInBounds_toArray, List.set_cons_zero, List.set_cons_succ]
                refine wpAnyK_take (i := 8) (v := ?_) [9, 12, 20, 24] rfl (by kernel_rfl) (fun _ _ _ h => h) (Or.inl ⟨by rfl, ?_⟩) (by assumption) ?_
                rotate_left
                focus (intro w9 hSw; (try dsimp only at hSw); go_simp; (try with_reducible rfl))
                try simp only [Act.put, List.setIfInBounds_toArray, List.set_cons_zero, List.set_cons_succ]
                refine wpAnyK_take (i := 10) (v := ?_) [11, 12, 20, 24] rfl (by kernel_rfl) (fun _ _ _ h => h) (Or.inl ⟨by rfl, ?_⟩) (by assumption) ?_
                rotate_left
                focus (intro w9 hSw; (try dsimp only at hSw); go_simp; (try with_reducible rfl))
                try simp only [Act.put, List.setIfInBounds_toArray, List.set_cons_zero, List.set_cons_succ]
                refine wpAnyK_take (i := 13) (v := ?_) [14, 15, 16, 17, 19, 20, 24] rfl (by kernel_rfl) (fun _ _ _ h => h) (Or.inl ⟨by rfl, ?_⟩) (by assumption) ?_
                rotate_left
                focus (intro w9 hSw; (try dsimp only at hSw); go_simp; (try with_reducible rfl))
                try simp only [Act.put, List.setIfInBounds_toArray, List.set_cons_zero, List.set_cons_succ]
                refine wpAnyK_take (i := 14) (v := ?_) [15, 16, 17, 19, 20, 24] rfl (by kernel_rfl) (fun _ _ _ h => h) (Or.inl ⟨by rfl, ?_⟩) (by assumption) ?_
                rotate_left
                focus (intro w9 hSw; (try dsimp only at hSw); go_simp; (try with_reducible rfl))
                try simp only [Act.put, List.setIfInBounds_toArray, List.set_cons_zero, List.set_cons_succ]
                refine wpAnyK_take (i := 15) (v := ?_) [16, 17, 19, 20, 24] rfl (by kernel_rfl) (fun _ _ _ h => h) (Or.inl ⟨by rfl, ?_⟩) (by assumption) ?_
                rotate_left
                focus (intro w9 hSw; (try dsimp only at hSw); go_simp; (try with_reducible rfl))
                try simp only [Act.put, List.setIfInBounds_toArray, List.set_cons_zero, List.set_cons_succ]
                refine wpAnyK_take (i := 16) (v := ?_) [17, 19, 20, 24] rfl (by kernel_rfl) (fun _ _ _ h => h) (Or.inl ⟨by rfl, ?_⟩) (by assumption) ?_
                rotate_left
                focus (intro w9 hSw; (try dsimp only at hSw); go_simp; (try with_reducible rfl))
                try simp only [Act.put, List.setIfInBounds_toArray, List.set_cons_zero, List.set_cons_succ]
                refine wpAnyK_take (i := 17) (v := ?_) [19, 20, 24] rfl (by kernel_rfl) (fun _ _ _ h => h) (Or.inl ⟨by rfl, ?_⟩) (by assumption) ?_
                rotate_left
                focus (intro w9 hSw; (try dsimp only at hSw); go_simp; (try with_reducible rfl))
                try simp only [Act.put, List.setIfInBounds_toArray, List.set_cons_zero, List.set_cons_succ]
                refine wpAnyK_take (i := 18) (v := ?_) [19, 20, 24] rfl (by kernel_rfl) (fun _ _ _ h => h) (Or.inl ⟨by rfl, ?_⟩) (by assumption) ?_
                rotate_left
                focus (intro w9 hSw; (try dsimp only at hSw); go_simp; (try with_reducible rfl))
                try simp only [Act.put, List.setIfInBounds_toArray, List.set_cons_zero, List.set_cons_succ]
                refine wpAnyK_take (i := 19) (v := ?_) [20, 24] rfl (by kernel_rfl) (fun _ _ _ h => h) (Or.inl ⟨by rfl, ?_⟩) (by assumption) ?_
                rotate_left
                focus (intro w9 hSw; (try dsimp only at hSw); go_simp; (try with_reducible rfl))
                try simp only [Act.put, List.setIfInBounds_toArray, List.set_cons_zero, List.set_cons_succ]
                refine wpAnyK_two (i := 1) (i' := 11) (by kernel_rfl) rfl rfl (fun K9 hK9 => ?_) (fun K9 hK9 => ?_)
                · go_simp
                  refine hK9.out _ _ (fun _ => (HMx.out.below (bel_new wx _)).held) (fun hS9 => ?_)
                  replace hS9 := hS9 (by decide)
                  try dsimp only at hS9
                  try simp only [Act.put, List.setIfInBounds_toArray, List.set_cons_zero, List.set_cons_succ]
                  refine wpAnyK_two (i := 9) (i' := 11) (by kernel_rfl) rfl rfl (fun K9 hK9 => ?_) (fun K9 hK9 => ?_)
                  · refine step_append_at (by rfl) _ _ _ (by rfl) HC1.out (by with_reducible rfl) (by rfl) (by rfl) (by rfl) ?_
                    refine hK9.out _ _ (fun _ => (HMx.out.below (HSC.out.bel1)).held) (fun hS9 => ?_)
                    replace hS9 := hS9 (by decide)
                    try dsimp only at hS9
                    try simp only [Act.put, List.setIfInBounds_toArray, List.set_cons_zero, List.set_cons_succ]
                    refine wpAnyK_one (i := 11) (by kernel_rfl) rfl (fun K9 hK9 => ?_)
                    go_simp
                    refine hK9.out _ _ (fun _ => (HMx.out.below (HSC.out.bel1.alloc HSC.out.bel1.size _)).held) (fun hS9 => ?_)
                    replace hS9 := hS9 (by decide)
                    try dsimp only at hS9
                    try simp only [Act.put, List.setIfInBounds_toArray, List.set_cons_zero, List.set_cons_succ]
                    refine wpAnyK_one (i := 12) (by kernel_rfl) rfl (fun K9 hK9 => ?_)
                    refine step_append_at (by rfl) _ _ _ (by rfl) HC2.out (by with_reducible rfl) (by rfl) (by rfl) (by rfl) ?_
                    refine hK9.out _ _ (fun _ => (HMx.out.below (HSC.out.bel2)).held) (fun hS9 => ?_)
                    replace hS9 := hS9 (by decide)
                    try dsimp only at hS9
                    try simp only [Act.put, List.setIfInBounds_toArray, List.set_cons_zero, List.set_cons_succ]
                    refine wpAnyK_one (i := 20) (by kernel_rfl) rfl (fun K9 hK9 => ?_)
                    refine step_append_at (by rfl) _ _ _ (by rfl) HC3.out (by with_reducible rfl) (by rfl) (by rfl) (by rfl) ?_
                    refine hK9.out _ _ (fun _ => (HMx.out.below (HSC.out.bel)).held) (fun hS9 => ?_)
                    replace hS9 := hS9 (by decide)
                    try dsimp only at hS9
                    try simp only [Act.put, List.setIfInBounds_toArray, List.set_cons_zero, List.set_cons_succ]
                    refine wpAnyK_take (i := 21) (v := ?_) [22, 23, 24] rfl (by kernel_rfl) (fun _ _ _ h => h) (Or.inl ⟨by rfl, ?_⟩) (by assumption) ?_
                    rotate_left
                    focus (intro w9 hSw; (try dsimp only at hSw); go_simp; (try with_reducible rfl))
                    try simp only [Act.put, List.setIfInBounds_toArray, List.set_cons_zero, List.set_cons_succ]
                    refine wpAnyK_take (i := 22) (v := ?_) [23, 24] rfl (by kernel_rfl) (fun _ _ _ h => h) (Or.inl ⟨by rfl, ?_⟩) (by assumption) ?_
                    rotate_left
                    focus (intro w9 hSw; (try dsimp only at hSw); go_simp; (try with_reducible rfl))
                    try simp only [Act.put, List.setIfInBounds_toArray, List.set_cons_zero, List.set_cons_succ]
                    refine wpAnyK_take (i := 23) (v := ?_) [24] rfl (by kernel_rfl) (fun _ _ _ h => h) (Or.inl ⟨by rfl, ?_⟩) (by assumption) ?_
                    rotate_left
                    focus (intro w9 hSw; (try dsimp only at hSw); go_simp; (try with_reducible rfl))
                    try simp only [Act.put, List.setIfInBounds_toArray, List.set_cons_zero, List.set_cons_succ]
                    refine wpAnyK_one (i := 24) (by kernel_rfl) rfl (fun K9 hK9 => ?_)
                    go_simp
                    refine hK9.out _ _ (fun h9 => absurd rfl h9) (fun hS9 => ?_)
                    try simp only [Act.put, List.setIfInBounds_toArray, List.set_cons_zero, List.set_cons_succ]
                    refine wpAnyK_done (by kernel_rfl) ?_ _
                    go_wp2
                    go_ret
                    rw [HX.out]
                    exact HPC.out
                  · go_simp
                    refine hK9.out _ _ (fun _ => (HMx.out.below ((bel_new wx _).alloc (by simp) _)).held) (fun hS9 => ?_)
                    replace hS9 := hS9 (by decide)
                    try dsimp only at hS9
                    try simp only [Act.put, List.setIfInBounds_toArray, List.set_cons_zero, List.set_cons_succ]
                    refine wpAnyK_one (i := 9) (by kernel_rfl) rfl (fun K9 hK9 => ?_)
                    refine step_append_at (by rfl) _ _ _ (by rfl) HB1'.out (by with_reducible rfl) (by rfl) (by rfl) (by rfl) ?_
                    refine hK9.out _ _ (fun _ => (HMx.out.below (HSB.out.bel1)).held) (fun hS9 => ?_)
                    replace hS9 := hS9 (by decide)
                    try dsimp only at hS9
                    try simp only [Act.put, List.setIfInBounds_toArray, List.set_cons_zero, List.set_cons_succ]
                    refine wpAnyK_one (i := 12) (by kernel_rfl) rfl (fun K9 hK9 => ?_)
                    refine step_append_at (by rfl) _ _ _ (by rfl) HB2'.out (by with_reducible rfl) (by rfl) (by rfl) (by rfl) ?_
                    refine hK9.out _ _ (fun _ => (HMx.out.below (HSB.out.bel2)).held) (fun hS9 => ?_)
                    replace hS9 := hS9 (by decide)
                    try dsimp only at hS9
                    try simp only [Act.put, List.setIfInBounds_toArray, List.set_cons_zero, List.set_cons_succ]
                    refine wpAnyK_one (i := 20) (by kernel_rfl) rfl (fun K9 hK9 => ?_)
                    refine step_append_at (by rfl) _ _ _ (by rfl) HB3'.out (by with_reducible rfl) (by rfl) (by rfl) (by rfl) ?_
                    refine hK9.out _ _ (fun _ => (HMx.out.below (HSB.out.bel)).held) (fun hS9 => ?_)
                    replace hS9 := hS9 (by decide)
                    try dsimp only at hS9
                    try simp only [Act.put, List.setIfInBounds_toArray, List.set_cons_zero, List.set_cons_succ]
                    refine wpAnyK_take (i := 21) (v := ?_) [22, 23, 24] rfl (by kernel_rfl) (fun _ _ _ h => h) (Or.inl ⟨by rfl, ?_⟩) (by assumption) ?_
                    rotate_left
                    focus (intro w9 hSw; (try dsimp only at hSw); go_simp; (try with_reducible rfl))
                    try simp only [Act.put, List.setIfInBounds_toArray, List.set_cons_zero, List.set_cons_succ]
                    refine wpAnyK_take (i := 22) (v := ?_) [23, 24] rfl (by kernel_rfl) (fun _ _ _ h => h) (Or.inl ⟨by rfl, ?_⟩) (by assumption) ?_
                    rotate_left
                    focus (intro w9 hSw; (try dsimp only at hSw); go_simp; (try with_reducible rfl))
                    try simp only [Act.put, List.setIfInBounds_toArray, List.set_cons_zero, List.set_cons_succ]
                    refine wpAnyK_take (i := 23) (v := ?_) [24] rfl (by kernel_rfl) (fun _ _ _ h => h) (Or.inl ⟨by rfl, ?_⟩) (by assumption) ?_
                    rotate_left
                    focus (intro w9 hSw; (try dsimp only at hSw); go_simp; (try with_reducible rfl))
                    try simp only [Act.put, List.setIfInBounds_toArray, List.set_cons_zero, List.set_cons_succ]
                    refine wpAnyK_one (i := 24) (by kernel_rfl) rfl (fun K9 hK9 => ?_)
                    go_simp
                    refine hK9.out _ _ (fun h9 => absurd rfl h9) (fun hS9 => ?_)
                    try simp only [Act.put, List.setIfInBounds_toArray, List.set_cons_zero, List.set_cons_succ]
                    refine wpAnyK_done (by kernel_rfl) ?_ _
                    go_wp2
                    go_ret
                    rw [HX.out]
                    exact HPB.out
                · go_simp
                  refine hK9.out _ _ (fun _ => (HMx.out.below (bel_new wx _)).held) (fun hS9 => ?_)
                  replace hS9 := hS9 (by decide)
                  try dsimp only at hS9
                  try simp only [Act.put, List.setIfInBounds_toArray, List.set_cons_zero, List.set_cons_succ]
                  refine wpAnyK_one (i := 1) (by kernel_rfl) rfl (fun K9 hK9 => ?_)
                  go_simp
                  refine hK9.out _ _ (fun _ => (HMx.out.below ((bel_new wx _).alloc (by simp) _)).held) (fun hS9 => ?_)
                  replace hS9 := hS9 (by decide)
                  try dsimp only at hS9
                  try simp only [Act.put, List.setIfInBounds_toArray, List.set_cons_zero, List.set_cons_succ]
                  refine wpAnyK_one (i := 9) (by kernel_rfl) rfl (fun K9 hK9 => ?_)
                  refine step_append_at (by rfl) _ _ _ (by rfl) HA1.out (by with_reducible rfl) (by rfl) (by rfl) (by rfl) ?_
                  refine hK9.out _ _ (fun _ => (HMx.out.below (HSA.out.bel1)).held) (fun hS9 => ?_)
                  replace hS9 := hS9 (by decide)
                  try dsimp only at hS9
                  try simp only [Act.put, List.setIfInBounds_toArray, List.set_cons_zero, List.set_cons_succ]
                  refine wpAnyK_one (i := 12) (by kernel_rfl) rfl (fun K9 hK9 => ?_)
                  refine step_append_at (by rfl) _ _ _ (by rfl) HA2.out (by with_reducible rfl) (by rfl) (by rfl) (by rfl) ?_
                  refine hK9.out _ _ (fun _ => (HMx.out.below (HSA.out.bel2)).held) (fun hS9 => ?_)
                  replace hS9 := hS9 (by decide)
                  try dsimp only at hS9
                  try simp only [Act.put, List.setIfInBounds_toArray, List.set_cons_zero, List.set_cons_succ]
                  refine wpAnyK_one (i := 20) (by kernel_rfl) rfl (fun K9 hK9 => ?_)
                  refine step_append_at (by rfl) _ _ _ (by rfl) HA3.out (by with_reducible rfl) (by rfl) (by rfl) (by rfl) ?_
                  refine hK9.out _ _ (fun _ => (HMx.out.below (HSA.out.bel)).held) (fun hS9 => ?_)
                  replace hS9 := hS9 (by decide)
                  try dsimp only at hS9
                  try simp only [Act.put, List.setIfInBounds_toArray, List.set_cons_zero, List.set_cons_succ]
                  refine wpAnyK_take (i := 21) (v := ?_) [22, 23, 24] rfl (by kernel_rfl) (fun _ _ _ h => h) (Or.inl ⟨by rfl, ?_⟩) (by assumption) ?_
                  rotate_left
                  focus (intro w9 hSw; (try dsimp only at hSw); go_simp; (try with_reducible rfl))
                  try simp only [Act.put, List.setIfInBounds_toArray, List.set_cons_zero, List.set_cons_succ]
                  refine wpAnyK_take (i := 22) (v := ?_) [23, 24] rfl (by kernel_rfl) (fun _ _ _ h => h) (Or.inl ⟨by rfl, ?_⟩) (by assumption) ?_
                  rotate_left
                  focus (intro w9 hSw; (try dsimp only at hSw); go_simp; (try with_reducible rfl))
                  try simp only [Act.put, List.setIfInBounds_toArray, List.set_cons_zero, List.set_cons_succ]
                  refine wpAnyK_take (i := 23) (v := ?_) [24] rfl (by kernel_rfl) (fun _ _ _ h => h) (Or.inl ⟨by rfl, ?_⟩) (by assumption) ?_
                  rotate_left
                  focus (intro w9 hSw; (try dsimp only at hSw); go_simp; (try with_reducible rfl))
                  try simp only [Act.put, List.setIfInBounds_toArray, List.set_cons_zero, List.set_cons_succ]
                  refine wpAnyK_one (i := 24) (by kernel_rfl) rfl (fun K9 hK9 => ?_)
                  go_simp
                  refine hK9.out _ _ (fun h9 => absurd rfl h9) (fun hS9 => ?_)
                  try simp only [Act.put, List.setIfInBounds_toArray, List.set_cons_zero, List.set_cons_succ]
                  refine wpAnyK_done (by kernel_rfl) ?_ _
                  go_wp2
                  go_ret
                  rw [HX.out]
                  exact HPA.out
        · obtain rfl : k = n := by omega
          have HK := Lib.hid (aheadN_eq L name k (by have := HLN.out; omega) hlo.out (fun h => absurd h (by have := HLN.out; omega)))
          have HNE := Lib.hid (show ¬ L[k]? = some name by rw [List.getElem?_eq_none (by have := HLN.out; omega)]; intro h; cases h)
          by_cases h24 : k = 24
          · have HX := Lib.hid (show doFile s name ⟨name, fk, fd⟩ = (s, 70) by rw [HD.out k HK.out, if_neg HNE.out, if_pos (by have := HFN.out; omega)])
            have h24b : ((k : Int) == 24) = true := by rw [h24]; rfl
            clear h24
            go_wp2
            go_quiet (fail)
            generalize hwx1 : wr.drewN _ = wx1
            have hbx1 : Below wr.heap.size wr wx1 := by rw [← hwx1]; exact dr_below _ _
            have m01 : wx1.cell? ⟨r, 0, none⟩ = some (.slice A k c) := (hbx1.cell (p := ⟨r, 0, none⟩) hrl).trans m0
            have b11 : wx1.cell? ⟨w.heap.size, 1, none⟩ = some (.string ⟨name.toArray⟩) := (hbx1.cell (p := ⟨w.heap.size, 1, none⟩) HMw.out.blt).trans b1
            
            have HBX1 := Lib.hid hbx1
            clear hwx1 hbx1
            go_wp2
            go_quiet (fail)
            generalize hwx : wx1.drewN _ = wx
            have hbx : Below wr.heap.size wr wx := by rw [← hwx]; exact bel_drewN HBX1.out _
            have HMx := Lib.hid (HMw.out.below hbx)
            have hbwx : Below w.heap.size w wx := HMx.out.bel
            have n0 : wx.cell? ⟨r, 0, none⟩ = some (.slice A k c) := HMx.out.ref.facts.1
            have nf0 := HMx.out.ref.facts.2.2.2.2 0
            have hrx := HMx.out.ref.blk.lt
            have hvx := HMx.out.var.lt
            clear hwx
            clear hbx
            go_wp2_with (fail)
            go_ret
            rw [HX.out]
            exact fin.out 70 _ hbwx
          · have HX := Lib.hid (show doFile s name ⟨name, fk, fd⟩ = (⟨insA s.files k ⟨name, fk, fd⟩, s.users, s.units, s.plan⟩, 0) by rw [HD.out k HK.out, if_neg HNE.out, if_neg (by have := HFN.out; omega)])
            have h24b : ((k : Int) == 24) = false := by rw [beq_eq_false_iff_ne]; omega
            clear h24
            go_wp2
            go_quiet (fail)
            generalize hwx1 : wr.drewN _ = wx1
            have hbx1 : Below wr.heap.size wr wx1 := by rw [← hwx1]; exact dr_below _ _
            have m01 : wx1.cell? ⟨r, 0, none⟩ = some (.slice A k c) := (hbx1.cell (p := ⟨r, 0, none⟩) hrl).trans m0
            have b11 : wx1.cell? ⟨w.heap.size, 1, none⟩ = some (.string ⟨name.toArray⟩) := (hbx1.cell (p := ⟨w.heap.size, 1, none⟩) HMw.out.blt).trans b1
            
            have HBX1 := Lib.hid hbx1
            clear hwx1 hbx1
            go_wp2
            go_quiet (fail)
            generalize hwx : wx1.drewN _ = wx
            have hbx : Below wr.heap.size wr wx := by rw [← hwx]; exact bel_drewN HBX1.out _
            have HMx := Lib.hid (HMw.out.below hbx)
            have hbwx : Below w.heap.size w wx := HMx.out.bel
            have n0 : wx.cell? ⟨r, 0, none⟩ = some (.slice A k c) := HMx.out.ref.facts.1
            have nf0 := HMx.out.ref.facts.2.2.2.2 0
            have hrx := HMx.out.ref.blk.lt
            have hvx := HMx.out.var.lt
            clear hwx
            have hnc := HMx.out.ref.obs.at_.files.slc.le
            have HSLC := Lib.hid HMx.out.ref.obs.at_.files.slc
            simp only at hnc
            obtain ⟨xc, hxc⟩ : ∃ xc : Array Value, xc = evArr ⟨name, fk, fd, some ⟨g4, 0, none⟩, fn, c4⟩ := ⟨_, rfl⟩
            have hx3 : xc.size = 3 := by rw [hxc]; rfl
            have hx1 : ∀ u ∈ xc.toList, u.oneCell' = true := by rw [hxc]; exact fun u hu => evCells_one [⟨name, fk, fd, some ⟨g4, 0, none⟩, fn, c4⟩] u (by simpa [evArr, evCells] using hu)
            obtain ⟨a1, ac1, aw1, a2, ac2, aw2, a3, ac3, aw3, SA⟩ := put3_a rowT_ent (w := wx) HSLC.out (Nat.le_refl _) (evCells_one es) hn6 hk hx3 hx1
            obtain ⟨b1', bc1, bw1, b2, bc2, bw2, b3, bc3, bw3, SB⟩ := put3_b rowT_ent (w := wx) HSLC.out (Nat.le_refl _) (evCells_one es) hn6 hk hx3 hx1
            obtain ⟨d1, dc1, dw1, d2, dc2, dw2, d3, dc3, dw3, SC⟩ := put3_c rowT_ent (w := wx) HSLC.out (Nat.le_refl _) (evCells_one es) hn6 hk hx3 hx1
            subst hxc
            have HPA := Lib.hid (HMx.out.ins hrw SA.bel SA.own)
            have HPB := Lib.hid (HMx.out.ins hrw SB.bel SB.own)
            have HPC := Lib.hid (HMx.out.ins hrw SC.bel SC.own)
            have HA1 := Lib.hid SA.r1
            have HA2 := Lib.hid SA.r2
            have HA3 := Lib.hid SA.r3
            have HB1' := Lib.hid SB.r1
            have HB2' := Lib.hid SB.r2
            have HB3' := Lib.hid SB.r3
            have HC1 := Lib.hid SC.r1
            have HC2 := Lib.hid SC.r2
            have HC3 := Lib.hid SC.r3
            have HSA := Lib.hid SA
            have HSB := Lib.hid SB
            have HSC := Lib.hid SC
            have na3 := (HMx.out.below SA.bel).ref.facts.2.2.2.2 0
            have nb3 := (HMx.out.below SB.bel).ref.facts.2.2.2.2 0
            have nc3 := (HMx.out.below SC.bel).ref.facts.2.2.2.2 0
            unfold evArr at HA1 HA2 HA3 HB1' HB2' HB3' HC1 HC2 HC3
            have hcl := cut_low rowT_ent (A := A) (n := k) (c := c) (k := k) (z := (k : Int)) rfl (by omega)
            have hch := cut_high rowT_ent (A := A) (n := k) (c := c) (k := k) (z := (k : Int)) rfl (by omega)
            clear SA SB SC hx1 hx3 m0 b1 m01 b11 hbx
            go_wp2_with (fail)
            refine wp_region_K (fun W' => W'.cell? ⟨r, 0, none⟩ = some (.slice A k c) ∧ W'.cell? ⟨v, 0, none⟩ = some (.string ⟨name.toArray⟩) ∧ W'.cell? ⟨v, 1, none⟩ = some (.int .i64 fk) ∧ W'.cell? ⟨v, 2, none⟩ = some (.slice (some ⟨g4, 0, none⟩) fn c4)) 24 (by kernel_rfl) HMx.out.held (fun hS9 => ?_)
            try simp only [Act.put, List.setIfInBounds_toArray, List.set_cons_zero, List.set_cons_succ]
            refine wpAnyK_take (i := 0) (v := ?_) [21, 22, 23, 24] rfl (by kernel_rfl) (fun _ _ _ h => h) (Or.inl ⟨by rfl, ?_⟩) (by assumption) ?_
            rotate_left
            focus (intro w9 hSw; (try dsimp only at hSw); go_simp; (try with_reducible rfl))
            try simp only [Act.put, List.setIfInBounds_toArray, List.set_cons_zero, List.set_cons_succ]
            refine wpAnyK_take (i := 2) (v := ?_) [3, 4, 5, 6, 8, 9, 12, 20, 24] rfl (by kernel_rfl) (fun _ _ _ h => h) (Or.inl ⟨by rfl, ?_⟩) (by assumption) ?_
            rotate_left
            focus (intro w9 hSw; (try dsimp only at hSw); go_simp; (try with_reducible rfl))
            try simp only [Act.put, List.setIfInBounds_toArray, List.set_cons_zero, List.set_cons_succ]
            refine wpAnyK_take (i := 3) (v := ?_) [4, 5, 6, 8, 9, 12, 20, 24] rfl (by kernel_rfl) (fun _ _ _ h => h) (Or.inl ⟨by rfl, ?_⟩) (by assumption) ?_
            rotate_left
            focus (intro w9 hSw; (try dsimp only at hSw); go_simp; (try with_reducible rfl))
            try simp only [Act.put, List.setIfInBounds_toArray, List.set_cons_zero, List.set_cons_succ]
            refine wpAnyK_take (i := 4) (v := ?_) [5, 6, 8, 9, 12, 20, 24] rfl (by kernel_rfl) (fun _ _ _ h => h) (Or.inl ⟨by rfl, ?_⟩) (by assumption) ?_
            rotate_left
            focus (intro w9 hSw; (try dsimp only at hSw); go_simp; (try with_reducible rfl))
            try simp only [Act.put, List.setIfInBounds_toArray, List.set_cons_zero, List.set_cons_succ]
            refine wpAnyK_take (i := 5) (v := ?_) [6, 8, 9, 12, 20, 24] rfl (by kernel_rfl) (fun _ _ _ h => h) (Or.inl ⟨by rfl, ?_⟩) (by assumption) ?_
            rotate_left
            focus (intro w9 hSw; (try dsimp only at hSw); go_simp; (try with_reducible rfl))
            try simp only [Act.put, List.setIfInBounds_toArray, List.set_cons_zero, List.set_cons_succ]
            refine wpAnyK_take (i := 6) (v := ?_) [8, 9, 12, 20, 24] rfl (by kernel_rfl) (fun _ _ _ h => h) (Or.inl ⟨by rfl, ?_⟩) (by assumption) ?_
            rotate_left
            focus (intro w9 hSw; (try dsimp only at hSw); go_simp; (try with_reducible rfl))
            try simp only [Act.put, List.setIfInBounds_toArray, List.set_cons_zero, List.set_cons_succ]
            refine wpAnyK_take (i := 7) (v := ?_) [8, 9, 12, 20, 24] rfl (by kernel_rfl) (fun _ _ _ h => h) (Or.inl ⟨by rfl, ?_⟩) (by assumption) ?_
            rotate_left
            focus (intro w9 hSw; (try dsimp only at hSw); go_simp; (try with_reducible rfl))
            try simp only [Act.put, List.setIfInBounds_toArray, List.set_cons_zero, List.set_cons_succ]
            refine wpAnyK_take (i := 8) (v := ?_) [9, 12, 20, 24] rfl (by kernel_rfl) (fun _ _ _ h => h) (Or.inl ⟨by rfl, ?_⟩) (by assumption) ?_
            rotate_left
            focus (intro w9 hSw; (try dsimp only at hSw); go_simp; (try with_reducible rfl))
            try simp only [Act.put, List.setIfInBounds_toArray, List.set_cons_zero, List.set_cons_succ]
            refine wpAnyK_take (i := 10) (v := ?_) [11, 12, 20, 24] rfl (by kernel_rfl) (fun _ _ _ h => h) (Or.inl ⟨by rfl, ?_⟩) (by assumption) ?_
            rotate_left
            focus (intro w9 hSw; (try dsimp only at hSw); go_simp; (try with_reducible rfl))
            try simp only [Act.put, List.setIfInBounds_toArray, List.set_cons_zero, List.set_cons_succ]
            refine wpAnyK_take (i := 13) (v := ?_) [14, 15, 16, 17, 19, 20, 24] rfl (by kernel_rfl) (fun _ _ _ h => h) (Or.inl ⟨by rfl, ?_⟩) (by assumption) ?_
            rotate_left
            focus (intro w9 hSw; (try dsimp only at hSw); go_simp; (try with_reducible rfl))
            try simp only [Act.put, List.setIfInBounds_toArray, List.set_cons_zero, List.set_cons_succ]
            refine wpAnyK_take (i := 14) (v := ?_) [15, 16, 17, 19, 20, 24] rfl (by kernel_rfl) (fun _ _ _ h => h) (Or.inl ⟨by rfl, ?_⟩) (by assumption) ?_
            rotate_left
            focus (intro w9 hSw; (try dsimp only at hSw); go_simp; (try with_reducible rfl))
            try simp only [Act.put, List.setIfInBounds_toArray, List.set_cons_zero, List.set_cons_succ]
            refine wpAnyK_take (i := 15) (v := ?_) [16, 17, 19, 20, 24] rfl (by kernel_rfl) (fun _ _ _ h => h) (Or.inl ⟨by rfl, ?_⟩) (by assumption) ?_
            rotate_left
            focus (intro w9 hSw; (try dsimp only at hSw); go_simp; (try with_reducible rfl))
            try simp only [Act.put, List.setIfInBounds_toArray, List.set_cons_zero, List.set_cons_succ]
            refine wpAnyK_take (i := 16) (v := ?_) [17, 19, 20, 24] rfl (by kernel_rfl) (fun _ _ _ h => h) (Or.inl ⟨by rfl, ?_⟩) (by assumption) ?_
            rotate_left
            focus (intro w9 hSw; (try dsimp only at hSw); go_simp; (try with_reducible rfl))
            try simp only [Act.put, List.setIfInBounds_toArray, List.set_cons_zero, List.set_cons_succ]
            refine wpAnyK_take (i := 17) (v := ?_) [19, 20, 24] rfl (by kernel_rfl) (fun _ _ _ h => h) (Or.inl ⟨by rfl, ?_⟩) (by assumption) ?_
            rotate_left
            focus (intro w9 hSw; (try dsimp only at hSw); go_simp; (try with_reducible rfl))
            try simp only [Act.put, List.setIfInBounds_toArray, List.set_cons_zero, List.set_cons_succ]
            refine wpAnyK_take (i := 18) (v := ?_) [19, 20, 24] rfl (by kernel_rfl) (fun _ _ _ h => h) (Or.inl ⟨by rfl, ?_⟩) (by assumption) ?_
            rotate_left
            focus (intro w9 hSw; (try dsimp only at hSw); go_simp; (try with_reducible rfl))
            try simp only [Act.put, List.setIfInBounds_toArray, List.set_cons_zero, List.set_cons_succ]
            refine wpAnyK_take (i := 19) (v := ?_) [20, 24] rfl (by kernel_rfl) (fun _ _ _ h => h) (Or.inl ⟨by rfl, ?_⟩) (by assumption) ?_
            rotate_left
            focus (intro w9 hSw; (try dsimp only at hSw); go_simp; (try with_reducible rfl))
            try simp only [Act.put, List.setIfInBounds_toArray, List.set_cons_zero, List.set_cons_succ]
            refine wpAnyK_two (i := 1) (i' := 11) (by kernel_rfl) rfl rfl (fun K9 hK9 => ?_) (fun K9 hK9 => ?_)
            · go_simp
              refine hK9.out _ _ (fun _ => (HMx.out.below (bel_new wx _)).held) (fun hS9 => ?_)
              replace hS9 := hS9 (by decide)
              try dsimp only at hS9
              try simp only [Act.put, List.setIfInBounds_toArray, List.set_cons_zero, List.set_cons_succ]
              refine wpAnyK_two (i := 9) (i' := 11) (by kernel_rfl) rfl rfl (fun K9 hK9 => ?_) (fun K9 hK9 => ?_)
              · refine step_append_at (by rfl) _ _ _ (by rfl) HC1.out (by with_reducible rfl) (by rfl) (by rfl) (by rfl) ?_
                refine hK9.out _ _ (fun _ => (HMx.out.below (HSC.out.bel1)).held) (fun hS9 => ?_)
                replace hS9 := hS9 (by decide)
                try dsimp only at hS9
                try simp only [Act.put, List.setIfInBounds_toArray, List.set_cons_zero, List.set_cons_succ]
                refine wpAnyK_one (i := 11) (by kernel_rfl) rfl (fun K9 hK9 => ?_)
                go_simp
                refine hK9.out _ _ (fun _ => (HMx.out.below (HSC.out.bel1.alloc HSC.out.bel1.size _)).held) (fun hS9 => ?_)
                replace hS9 := hS9 (by decide)
                try dsimp only at hS9
                try simp only [Act.put, List.setIfInBounds_toArray, List.set_cons_zero, List.set_cons_succ]
                refine wpAnyK_one (i := 12) (by kernel_rfl) rfl (fun K9 hK9 => ?_)
                refine step_append_at (by rfl) _ _ _ (by rfl) HC2.out (by with_reducible rfl) (by rfl) (by rfl) (by rfl) ?_
                refine hK9.out _ _ (fun _ => (HMx.out.below (HSC.out.bel2)).held) (fun hS9 => ?_)
                replace hS9 := hS9 (by decide)
                try dsimp only at hS9
                try simp only [Act.put, List.setIfInBounds_toArray, List.set_cons_zero, List.set_cons_succ]
                refine wpAnyK_one (i := 20) (by kernel_rfl) rfl (fun K9 hK9 => ?_)
                refine step_append_at (by rfl) _ _ _ (by rfl) HC3.out (by with_reducible rfl) (by rfl) (by rfl) (by rfl) ?_
                refine hK9.out _ _ (fun _ => (HMx.out.below (HSC.out.bel)).held) (fun hS9 => ?_)
                replace hS9 := hS9 (by decide)
                try dsimp only at hS9
                try simp only [Act.put, List.setIfInBounds_toArray, List.set_cons_zero, List.set_cons_succ]
                refine wpAnyK_take (i := 21) (v := ?_) [22, 23, 24] rfl (by kernel_rfl) (fun _ _ _ h => h) (Or.inl ⟨by rfl, ?_⟩) (by assumption) ?_
                rotate_left
                focus (intro w9 hSw; (try dsimp only at hSw); go_simp; (try with_reducible rfl))
                try simp only [Act.put, List.setIfInBounds_toArray, List.set_cons_zero, List.set_cons_succ]
                refine wpAnyK_take (i := 22) (v := ?_) [23, 24] rfl (by kernel_rfl) (fun _ _ _ h => h) (Or.inl ⟨by rfl, ?_⟩) (by assumption) ?_
                rotate_left
                focus (intro w9 hSw; (try dsimp only at hSw); go_simp; (try with_reducible rfl))
                try simp only [Act.put, List.setIfInBounds_toArray, List.set_cons_zero, List.set_cons_succ]
                refine wpAnyK_take (i := 23) (v := ?_) [24] rfl (by kernel_rfl) (fun _ _ _ h => h) (Or.inl ⟨by rfl, ?_⟩) (by assumption) ?_
                rotate_left
                focus (intro w9 hSw; (try dsimp only at hSw); go_simp; (try with_reducible rfl))
                try simp only [Act.put, List.setIfInBounds_toArray, List.set_cons_zero, List.set_cons_succ]
                refine wpAnyK_one (i := 24) (by kernel_rfl) rfl (fun K9 hK9 => ?_)
                go_simp
                refine hK9.out _ _ (fun h9 => absurd rfl h9) (fun hS9 => ?_)
                try simp only [Act.put, List.setIfInBounds_toArray, List.set_cons_zero, List.set_cons_succ]
                refine wpAnyK_done (by kernel_rfl) ?_ _
                go_wp2
                go_ret
                rw [HX.out]
                exact HPC.out
              · go_simp
                refine hK9.out _ _ (fun _ => (HMx.out.below ((bel_new wx _).alloc (by simp) _)).held) (fun hS9 => ?_)
                replace hS9 := hS9 (by decide)
                try dsimp only at hS9
                try simp only [Act.put, List.setIfInBounds_toArray, List.set_cons_zero, List.set_cons_succ]
                refine wpAnyK_one (i := 9) (by kernel_rfl) rfl (fun K9 hK9 => ?_)
                refine step_append_at (by rfl) _ _ _ (by rfl) HB1'.out (by with_reducible rfl) (by rfl) (by rfl) (by rfl) ?_
                refine hK9.out _ _ (fun _ => (HMx.out.below (HSB.out.bel1)).held) (fun hS9 => ?_)
                replace hS9 := hS9 (by decide)
                try dsimp only at hS9
                try simp only [Act.put, List.setIfInBounds_toArray, List.set_cons_zero, List.set_cons_succ]
                refine wpAnyK_one (i := 12) (by kernel_rfl) rfl (fun K9 hK9 => ?_)
                refine step_append_at (by rfl) _ _ _ (by rfl) HB2'.out (by with_reducible rfl) (by rfl) (by rfl) (by rfl) ?_
                refine hK9.out _ _ (fun _ => (HMx.out.below (HSB.out.bel2)).held) (fun hS9 => ?_)
                replace hS9 := hS9 (by decide)
                try dsimp only at hS9
                try simp only [Act.put, List.setIfInBounds_toArray, List.set_cons_zero, List.set_cons_succ]
                refine wpAnyK_one (i := 20) (by kernel_rfl) rfl (fun K9 hK9 => ?_)
                refine step_append_at (by rfl) _ _ _ (by rfl) HB3'.out (by with_reducible rfl) (by rfl) (by rfl) (by rfl) ?_
                refine hK9.out _ _ (fun _ => (HMx.out.below (HSB.out.bel)).held) (fun hS9 => ?_)
                replace hS9 := hS9 (by decide)
                try dsimp only at hS9
                try simp only [Act.put, List.setIfInBounds_toArray, List.set_cons_zero, List.set_cons_succ]
                refine wpAnyK_take (i := 21) (v := ?_) [22, 23, 24] rfl (by kernel_rfl) (fun _ _ _ h => h) (Or.inl ⟨by rfl, ?_⟩) (by assumption) ?_
                rotate_left
                focus (intro w9 hSw; (try dsimp only at hSw); go_simp; (try with_reducible rfl))
                try simp only [Act.put, List.setIfInBounds_toArray, List.set_cons_zero, List.set_cons_succ]
                refine wpAnyK_take (i := 22) (v := ?_) [23, 24] rfl (by kernel_rfl) (fun _ _ _ h => h) (Or.inl ⟨by rfl, ?_⟩) (by assumption) ?_
                rotate_left
                focus (intro w9 hSw; (try dsimp only at hSw); go_simp; (try with_reducible rfl))
                try simp only [Act.put, List.setIfInBounds_toArray, List.set_cons_zero, List.set_cons_succ]
                refine wpAnyK_take (i := 23) (v := ?_) [24] rfl (by kernel_rfl) (fun _ _ _ h => h) (Or.inl ⟨by rfl, ?_⟩) (by assumption) ?_
                rotate_left
                focus (intro w9 hSw; (try dsimp only at hSw); go_simp; (try with_reducible rfl))
                try simp only [Act.put, List.setIfInBounds_toArray, List.set_cons_zero, List.set_cons_succ]
                refine wpAnyK_one (i := 24) (by kernel_rfl) rfl (fun K9 hK9 => ?_)
                go_simp
                refine hK9.out _ _ (fun h9 => absurd rfl h9) (fun hS9 => ?_)
                try simp only [Act.put, List.setIfInBounds_toArray, List.set_cons_zero, List.set_cons_succ]
                refine wpAnyK_done (by kernel_rfl) ?_ _
                go_wp2
                go_ret
                rw [HX.out]
                exact HPB.out
            · go_simp
              refine hK9.out _ _ (fun _ => (HMx.out.below (bel_new wx _)).held) (fun hS9 => ?_)
              replace hS9 := hS9 (by decide)
              try dsimp only at hS9
              try simp only [Act.put, List.setIfInBounds_toArray, List.set_cons_zero, List.set_cons_succ]
              refine wpAnyK_one (i := 1) (by kernel_rfl) rfl (fun K9 hK9 => ?_)
              go_simp
              refine hK9.out _ _ (fun _ => (HMx.out.below ((bel_new wx _).alloc (by simp) _)).held) (fun hS9 => ?_)
              replace hS9 := hS9 (by decide)
              try dsimp only at hS9
              try simp only [Act.put, List.setIfInBounds_toArray, List.set_cons_zero, List.set_cons_succ]
              refine wpAnyK_one (i := 9) (by kernel_rfl) rfl (fun K9 hK9 => ?_)
              refine step_append_at (by rfl) _ _ _ (by rfl) HA1.out (by with_reducible rfl) (by rfl) (by rfl) (by rfl) ?_
              refine hK9.out _ _ (fun _ => (HMx.out.below (HSA.out.bel1)).held) (fun hS9 => ?_)
              replace hS9 := hS9 (by decide)
              try dsimp only at hS9
              try simp only [Act.put, List.setIfInBounds_toArray, List.set_cons_zero, List.set_cons_succ]
              refine wpAnyK_one (i := 12) (by kernel_rfl) rfl (fun K9 hK9 => ?_)
              refine step_append_at (by rfl) _ _ _ (by rfl) HA2.out (by with_reducible rfl) (by rfl) (by rfl) (by rfl) ?_
              refine hK9.out _ _ (fun _ => (HMx.out.below (HSA.out.bel2)).held) (fun hS9 => ?_)
              replace hS9 := hS9 (by decide)
              try dsimp only at hS9
              try simp only [Act.put, List.setIfInBounds_toArray, List.set_cons_zero, List.set_cons_succ]
              refine wpAnyK_one (i := 20) (by kernel_rfl) rfl (fun K9 hK9 => ?_)
              refine step_append_at (by rfl) _ _ _ (by rfl) HA3.out (by with_reducible rfl) (by rfl) (by rfl) (by rfl) ?_
              refine hK9.out _ _ (fun _ => (HMx.out.below (HSA.out.bel)).held) (fun hS9 => ?_)
              replace hS9 := hS9 (by decide)
              try dsimp only at hS9
              try simp only [Act.put, List.setIfInBounds_toArray, List.set_cons_zero, List.set_cons_succ]
              refine wpAnyK_take (i := 21) (v := ?_) [22, 23, 24] rfl (by kernel_rfl) (fun _ _ _ h => h) (Or.inl ⟨by rfl, ?_⟩) (by assumption) ?_
              rotate_left
              focus (intro w9 hSw; (try dsimp only at hSw); go_simp; (try with_reducible rfl))
              try simp only [Act.put, List.setIfInBounds_toArray, List.set_cons_zero, List.set_cons_succ]
              refine wpAnyK_take (i := 22) (v := ?_) [23, 24] rfl (by kernel_rfl) (fun _ _ _ h => h) (Or.inl ⟨by rfl, ?_⟩) (by assumption) ?_
              rotate_left
              focus (intro w9 hSw; (try dsimp only at hSw); go_simp; (try with_reducible rfl))
              try simp only [Act.put, List.setIfInBounds_toArray, List.set_cons_zero, List.set_cons_succ]
              refine wpAnyK_take (i := 23) (v := ?_) [24] rfl (by kernel_rfl) (fun _ _ _ h => h) (Or.inl ⟨by rfl, ?_⟩) (by assumption) ?_
              rotate_left
              focus (intro w9 hSw; (try dsimp only at hSw); go_simp; (try with_reducible rfl))
              try simp only [Act.put, List.setIfInBounds_toArray, List.set_cons_zero, List.set_cons_succ]
              refine wpAnyK_one (i := 24) (by kernel_rfl) rfl (fun K9 hK9 => ?_)
              go_simp
              refine hK9.out _ _ (fun h9 => absurd rfl h9) (fun hS9 => ?_)
              try simp only [Act.put, List.setIfInBounds_toArray, List.set_cons_zero, List.set_cons_succ]
              refine wpAnyK_done (by kernel_rfl) ?_ _
              go_wp2
              go_ret
              rw [HX.out]
              exact HPA.out
end
end
end Go.Proofs.YtibndaianhlcaaaGreatDoor
