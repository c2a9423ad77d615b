/- machine.start. Contracts of the library laid at this dump. machine.user: a text is looked for and put into a risen list. -/
import Derived.Test.YtibndaianhlcaaaDoorPart9
import Derived.Test.YtibndaianhlcaaaDoorPart10
import Derived.Shelf.Spec.SearchS
import Derived.Ground.Names2Prog
import Derived.Shelf.Spec.SlicesInsert
import Derived.Shelf.Spec.SlicesInsertGrow
import Derived.Test.YtibndaianhlcaaaDoorProg
import Derived.Test.YtibndaianhlcaaaDoorPart6
namespace Go.Proofs.YtibndaianhlcaaaDoor
open Go.RowKit Go.Sort Go.Shelf
set_option linter.unusedVariables false
set_option linter.unusedSimpArgs false

/-- A unit is put behind the others. -/
structure StartEnd (w : World) (F : Nat → Prop) (g : Nat) (s : Mach) (w9 : World) (nA : Option Addr) (nn nc : Nat) (u' : SV) (A4 : Option Addr) (c4 : Nat) (w10 : World) : Prop where
  run : (Builtin.append_ #[32, 32] 32 #[.slice nA nn nc, .slice (some ⟨w9.heap.size, 0, none⟩) 1 1]).run Tryd.prog (w9.alloc (.cells (svArr u') 46)) = .ok (.slice A4 (nn + 1) c4) w10
  cell9 : w9.cell? ⟨g, 2, none⟩ = some (.slice nA nn nc)
  cell10 : (w10.cell? ⟨g, 2, none⟩).isSome = true ∧ w10.frozen? ⟨g, 2, none⟩ = false
  mach : MachAt (w10.setCell ⟨g, 2, none⟩ (.slice A4 (nn + 1) c4)) (Fn F w (w10.setCell ⟨g, 2, none⟩ (.slice A4 (nn + 1) c4))) g ⟨s.files, s.users, s.units ++ [u'.srv], s.plan⟩
  step : Step w (w10.setCell ⟨g, 2, none⟩ (.slice A4 (nn + 1) c4)) F (Fn F w (w10.setCell ⟨g, 2, none⟩ (.slice A4 (nn + 1) c4)))
theorem start_end {w : World} {F : Nat → Prop} {g : Nat} {s : Mach} {fA : Option Addr} {fn fc : Nat} {es : List EV} {uA : Option Addr} {un uc : Nat} {nA : Option Addr} {nn nc : Nat} {us : List SV} {pA : Option Addr} {pn pc : Nat} (h : MachV w F g s fA fn fc es uA un uc nA nn nc us pA pn pc)
    {w9 : World} {x : Srv} {u' : SV} (hout : UnitOut w.drew w9 x u') (hn : nn ≤ 1000000000) : ∃ A4 c4 w10, StartEnd w F g s w9 nA nn nc u' A4 c4 w10 := by
  have hb9 : Below w.heap.size w w9 := ((Below.refl _ w).drew).trans hout.bel
  have h9 := (h.below hb9).wide (fn_wide F w w9)
  have own : ∀ {v : Value} {n : Nat} {xs : List Value}, w9.ownsRow w.heap.size 9 1 v n xs → Row w9 (Fn F w w9) 9 1 v n xs := fun hr =>
    ⟨⟨hr.1, hr.2.imp id fun ⟨g, cap, cur, e, _, r⟩ => ⟨g, cap, cur, e, Nat.zero_le _, r⟩⟩, fun k hk => .inr (hr.lt k hk)⟩
  have hU : OwnU w9 (Fn F w w9) nA nn nc us := ⟨h9.units, h9.req, h9.aft⟩
  obtain ⟨A4, c4, w10, r, h2, hg⟩ := hU.append u' (own hout.own1) (own hout.own2) hn
  have hlt : ∀ k, (Value.slice uA un uc).ownBlock = some k → k < w.heap.size := fun k hk => (h.users.own.lt k hk).2
  have hs := h9.setUnits (w' := w10) hg (G := Fn (Fn F w w9) w9 w10) (fn_wide _ _ _) h2.row (fun v hv => by
    rcases List.mem_append.1 hv with hv | hv
    · exact .inl hv
    · rw [List.mem_singleton.1 hv]
      refine .inr ⟨h2.req _ (List.mem_append_right _ (List.mem_singleton.2 rfl)), h2.aft _ (List.mem_append_right _ (List.mem_singleton.2 rfl)), fun k hk => ⟨fun e => ?_, fun e => ?_⟩⟩
      · have h3 : w.heap.size ≤ k := (hout.own1.lt k e).1
        have := hlt k hk; omega
      · have h3 : w.heap.size ≤ k := (hout.own2.lt k e).1
        have := hlt k hk; omega)
  have hsz : (w10.setCell ⟨g, 2, none⟩ (.slice A4 (nn + 1) c4)).heap.size = w10.heap.size := by simp [World.setCell]
  have hst := (((Step.of_below hb9 F).grown hg (fun k hk => by
    rcases h9.units.foot k hk with h3 | h3
    · exact .inl h3
    · exact .inr h3.1)).setCell (p := ⟨g, 2, none⟩) (.inl h.foot) (.slice A4 (nn + 1) c4))
  have hgk := grown_other hg (row_typed h9.units) (e := 36) (by decide) g _ (0, 0) h9.blk
  have hB10 : Blk w10 g 36 _ := hgk.trans h9.blk
  have h91 := hb9.size
  have h92 := hg.size
  refine ⟨A4, c4, w10, r, h9.facts.2.2.1, ⟨by rw [hB10.cell 2]; rfl, hB10.frozen 2⟩, ?_, hst.fn⟩
  rw [List.map_append, h9.srvs] at hs
  refine ⟨_, _, _, _, _, _, _, _, _, _, _, _, _, _, hs.wide fun k hk => ?_⟩
  unfold Fn
  rw [hsz]
  rcases hk with (hk | hk) | hk
  · exact .inl hk
  · exact .inr ⟨hk.1, by omega⟩
  · exact .inr ⟨by omega, hk.2⟩
theorem MachAt.later {w w5 w' : World} {F : Nat → Prop} {g : Nat} {s : Mach} (h : MachAt w' (Fn F w5 w') g s) (hs : w.heap.size ≤ w5.heap.size) : MachAt w' (Fn F w w') g s := by
  obtain ⟨fA, fn, fc, es, uA, un, uc, nA, nn, nc, us, pA, pn, pc, h⟩ := h
  refine ⟨fA, fn, fc, es, uA, un, uc, nA, nn, nc, us, pA, pn, pc, h.wide fun k hk => ?_⟩
  rcases hk with hk | hk
  · exact .inl hk
  · exact .inr ⟨by omega, hk.2⟩
theorem lt_of_len {k n m : Nat} (h : m = n) (hk : k < n) : k < m := by omega
set_option maxRecDepth 100000 in
set_option maxHeartbeats 4000000 in
theorem start_any {w : World} {F : Nat → Prop} {g : Nat} {s : Mach} (h : MachAt w F g s) (hn24 : s.units.length ≤ 1000000) (name : Txt) {B : Nat} (u : SV) (h1 : Slc w B 1 u.A u.n u.c (u.req.map encStr)) (h2 : Slc w B 1 u.A2 u.n2 u.c2 (u.aft.map encStr)) (hB : B ≤ w.heap.size) (hn : u.n ≤ 1000000000 ∧ u.n2 ≤ 1000000000)
    (hs : ∀ t ∈ u.name :: (u.req ++ u.aft), t.length ≤ 1000000000) (hst : u.start.length ≤ 1000000000) (hF1 : ∀ a, u.A = some a → ¬ F a.block) (hF2 : ∀ a, u.A2 = some a → ¬ F a.block) (hFl : ∀ k, F k → k < w.heap.size) :
    Calls Tryd.prog 26 #[.pointer (some ⟨g, 2, none⟩), .string ⟨name.toArray⟩, .agg (svArr u)] w (MachPost w F g (doStart s name u.srv)) := by
  obtain ⟨fA, fn, fc, es, uA, un, uc, nA, nn, nc, us, pA, pn, pc, h⟩ := h
  obtain ⟨W1, hW1⟩ : ∃ W1, W1 = w.alloc (.cells (svArr u) 46) := ⟨_, rfl⟩
  have hb1 : Below w.heap.size w W1 := by rw [hW1]; exact (Below.refl _ w).alloc (Nat.le_refl _) _
  have hG1 : Blk W1 w.heap.size 46 (svArr u) := by rw [hW1]; exact Blk.new _ _ _
  have hz1 : W1.heap.size = w.heap.size + 1 := by rw [hW1]; simp
  have hmay := may_any20 u (h1.below (hb1.mono hB)) (h2.below (hb1.mono hB)) (by omega) hn hs hst
  have hnl := h.nlen
  have HNL := Lib.hid hnl
  have H := Lib.hid h
  have HG1 := Lib.hid hG1
  have HB1 := Lib.hid hb1
  have HS1 := Lib.hid h1
  have HS2 := Lib.hid h2
  have HF1 := Lib.hid hF1
  have HF2 := Lib.hid hF2
  have HN := Lib.hid hn
  have HFL := Lib.hid hFl
  have HBB := Lib.hid hB
  have hnn : nn ≤ 1000000 := by omega
  have HU1 := Lib.hid (show u.req.length = u.n by have := h1.len; simpa using this)
  obtain ⟨nm, st, rq, A, n, c, af, A', n', c'⟩ := u
  have hn1 : n ≤ 1000000000 := hn.1
  have x0 := hG1.cell 0
  have x1 := hG1.cell 1
  have x2 := hG1.cell 2
  have x3 := hG1.cell 3
  rw [hW1] at hmay x0 x1 x2 x3
  have HW1 := Lib.hid hW1
  unfold svArr at hmay x0 x1 x2 x3 ⊢
  simp only [List.getElem?_toArray, List.getElem?_cons_zero, List.getElem?_cons_succ] at x0 x1 x2 x3
  have tn : (ByteArray.mk name.toArray).toList = name := Go.ByteArray.toList_eq _
  have tm : (ByteArray.mk nm.toArray).toList = nm := Go.ByteArray.toList_eq _
  clear h h1 h2 hF1 hF2 hn hB hb1 hG1 hW1 hs hst hnl hz1 hFl
  have hbad : Hid (¬ (mayU ⟨nm, st, rq, af⟩ = true ∧ name = nm) → doStart s name ⟨nm, st, rq, af⟩ = (s, 70)) := fun h9 => by unfold doStart; rw [if_neg h9]
  change Calls Tryd.prog 26 _ w (MachPost w F g (doStart s name ⟨nm, st, rq, af⟩))
  change Calls Tryd.prog 48 _ _ (fun e w' => e = .returned (.bool (mayU ⟨nm, st, rq, af⟩)) ∧ _) at hmay
  have fin70 : Hid (∀ w', Below w.heap.size w w' → MachPost w F g (s, 70) (.returned (.int .i64 70)) w') := fun w' hb => ⟨rfl, ⟨fA, fn, fc, es, uA, un, uc, nA, nn, nc, us, pA, pn, pc, (H.out.below hb).wide (fn_wide _ _ _)⟩, (Step.of_below hb F).fn⟩
  have fin0 : Hid (∀ w', Below w.heap.size w w' → MachPost w F g (s, 0) (.returned (.int .i64 0)) w') := fun w' hb => ⟨rfl, ⟨fA, fn, fc, es, uA, un, uc, nA, nn, nc, us, pA, pn, pc, (H.out.below hb).wide (fn_wide _ _ _)⟩, (Step.of_below hb F).fn⟩
  cases hm : mayU ⟨nm, st, rq, af⟩ with
  | false =>
    have HX := Lib.hid (hbad.out (fun h9 => by rw [hm] at h9; exact absurd h9.1 (by decide)))
    rw [hm] at hmay
    clear hm hbad
    go_enter Tryd.func26, Tryd.ntmps26
    go_wp2_with (go_at_call 48; refine hmay.mono ?_; clear hmay; rintro e w2 ⟨rfl, hb2⟩)
    go_ret
    rw [HX.out]
    exact fin70.out _ (HB1.out.trans ((HW1.out ▸ hb2 : Below W1.heap.size W1 w2).mono HB1.out.size))
  | true =>
    rw [hm] at hmay
    cases hnm : (name == nm) with
    | false =>
      have HX := Lib.hid (hbad.out (fun h9 => by rw [h9.2] at hnm; simp at hnm))
      clear hm hbad
      go_enter Tryd.func26, Tryd.ntmps26
      go_wp2_with (go_at_call 48; refine hmay.mono ?_; clear hmay; rintro e w2 ⟨rfl, hb2⟩; have y0 : w2.cell? ⟨w.heap.size, 0, none⟩ = some (.string ⟨nm.toArray⟩) := ((HG1.out.below (HW1.out ▸ hb2 : Below W1.heap.size W1 w2) HG1.out.lt)).cell 0)
      go_ret
      rw [HX.out]
      exact fin70.out _ (HB1.out.trans ((HW1.out ▸ hb2 : Below W1.heap.size W1 w2).mono HB1.out.size))
    | true =>
      have HNM := Lib.hid (show name = nm by simpa using hnm)
      have HM := Lib.hid hm
      clear hm hbad
      have hal : Hid (∀ {W : World}, Below w.heap.size w W → Calls Tryd.prog 35 #[.pointer (some ⟨g, 2, none⟩), .string ⟨name.toArray⟩] W fun e w' => e = .returned (.int .i64 (atU s.units name)) ∧ Below W.heap.size W w') := fun hb => at_any (H.out.below hb) name
      cases hh : hasU s.units name with
      | false =>
        have hat : atU s.units name = -1 := by unfold atU; rw [if_neg (by rw [hh]; decide)]
        have HD := Lib.hid (show doStart s name ⟨nm, st, rq, af⟩ = if rq.all (hasU s.units) = false then (s, 70) else if s.units.length = 24 then (s, 70) else if failsP s.plan = true then (⟨s.files, s.users, s.units, s.plan.tail⟩, 71) else (⟨s.files, s.users, s.units ++ [⟨nm, st, rq, af⟩], s.plan.tail⟩, 0) by
          unfold doStart
          rw [if_pos ⟨HM.out, HNM.out⟩, if_neg (by rw [hh]; intro h9; exact absurd h9.1 (by decide)), hh]
          simp only [Bool.false_eq_true, if_false])
        rw [hat] at hal
        clear hat hh
        go_enter Tryd.func26, Tryd.ntmps26
        go_wp2_with (first
          | (go_at_call 48; refine hmay.mono ?_; clear hmay; rintro e w2 ⟨rfl, hb2⟩; have hb2' : Below W1.heap.size W1 w2 := HW1.out ▸ hb2; have y0 : w2.cell? ⟨w.heap.size, 0, none⟩ = some (.string ⟨nm.toArray⟩) := (HG1.out.below hb2' HG1.out.lt).cell 0; have HB2 := Lib.hid hb2'; clear hb2 hb2')
          | (go_at_call 35; refine (hal.out (HB1.out.trans (HB2.out.mono HB1.out.size))).mono ?_; rintro e w3 ⟨rfl, hb3⟩; have hb3' := HB2.out.trans (hb3.mono HB2.out.size); have y2 : w3.cell? ⟨w.heap.size, 2, none⟩ = some (.slice A n c) := (HG1.out.below hb3' HG1.out.lt).cell 2; have HB3 := Lib.hid hb3'; clear hb3 hb3'))
        go_quiet (fail)
        go_wp2_with (fail)
        go_loopw [39] (fun i wr => ∃ k : Nat, k ≤ n ∧ i = .int .i64 (k : Int) ∧ Aside ((rq.take k).all (hasU s.units) = true) ∧ Aside (Below W1.heap.size W1 wr)) (fun i _ => n - (intOf i).toNat)
        case atStart => exact ⟨0, Nat.zero_le _, rfl, rfl, bel_drewN HB3.out _⟩
        case round =>
          obtain ⟨k, hk, rfl, hall, hb⟩ := hrel
          have hbw : Below w.heap.size w wr := HB1.out.trans (hb.out.mono HB1.out.size)
          by_cases hlt : k < n
          · obtain ⟨b, off, rfl, hbB, hc⟩ := (HS1.out.below (hbw.mono HBB.out)).at_ (show 0 < n by omega)
            have hkL : k < rq.length := lt_of_len HU1.out hlt
            have hk1 : k + 1 ≤ n := hlt
            have c0 : wr.cell? ⟨b, off + k, none⟩ = some (.string ⟨rq[k].toArray⟩) := hc k _ (by rw [List.getElem?_map, List.getElem?_eq_getElem hkL]; rfl)
            have hat2 := at_any (H.out.below hbw) rq[k]
            have HTK := Lib.hid (show (rq.take (k + 1)).all (hasU s.units) = hasU s.units rq[k] by rw [List.take_succ_eq_append_getElem hkL, List.all_append, hall.out]; simp)
            have HAL := Lib.hid (show hasU s.units rq[k] = false → rq.all (hasU s.units) = false from fun h9 => by rw [List.all_eq_false]; exact ⟨_, List.getElem_mem hkL, by rw [h9]; decide⟩)
            generalize rq[k] = t at *
            clear hc
            cases hb9 : hasU s.units t with
            | false =>
              rw [show atU s.units t = -1 by unfold atU; rw [if_neg (by rw [hb9]; decide)]] at hat2
              have HX := Lib.hid (show doStart s name ⟨nm, st, rq, af⟩ = (s, 70) by rw [HD.out, if_pos (HAL.out hb9)])
              clear hb9
              go_wp2_with (go_at_call 35; refine hat2.mono ?_; clear hat2; rintro e9 w9 ⟨rfl, hb9⟩; have HB9 := Lib.hid (hbw.trans (hb9.mono hbw.size)); clear hb9)
              go_ret
              rw [HX.out]
              exact fin70.out _ HB9.out
            | true =>
              have hz : ¬ ((idxU s.units t : Int) < 0) := by omega
              rw [show atU s.units t = (idxU s.units t : Int) by unfold atU; rw [if_pos hb9]] at hat2
              have HT := Lib.hid (HTK.out.trans hb9)
              clear hb9
              generalize idxU s.units t = q at *
              go_wp2_with (go_at_call 35; refine hat2.mono ?_; clear hat2; rintro e9 w9 ⟨rfl, hb9⟩; have HB9 := Lib.hid (hb.out.trans (hb9.mono hb.out.size)); clear hb9)
              exact ⟨⟨k + 1, hk1, by go_num, HT.out, HB9.out⟩, by clear HB9 HT; simp [intOf]; omega⟩
          · obtain rfl : k = n := by omega
            have hal2 : rq.all (hasU s.units) = true := by
              have h9 := hall.out
              rwa [List.take_of_length_le (Nat.le_of_eq HU1.out)] at h9
            have hnu := HNL.out.2
            have hgw : g < wr.heap.size := Nat.lt_of_lt_of_le H.out.blk.lt hbw.size
            have m2 := (H.out.below hbw).facts.2.2.1
            by_cases h24 : nn = 24
            · have HX := Lib.hid (show doStart s name ⟨nm, st, rq, af⟩ = (s, 70) by rw [HD.out, if_neg (by rw [hal2]; decide), if_pos (by omega)])
              have HBW := Lib.hid hbw
              have h24b : ((nn : Int) == 24) = true := by rw [h24]; rfl
              clear hal2 hnu hbw
              go_wp2_with (fail)
              go_ret
              rw [HX.out]
              exact fin70.out _ HBW.out
            · have hfl := fails_any (H.out.below hbw)
              have h24b : ((nn : Int) == 24) = false := by rw [beq_eq_false_iff_ne]; omega
              cases hf : failsP s.plan with
              | true =>
                have HX := Lib.hid (show doStart s name ⟨nm, st, rq, af⟩ = (⟨s.files, s.users, s.units, s.plan.tail⟩, 71) by rw [HD.out, if_neg (by rw [hal2]; decide), if_neg (by omega), if_pos hf])
                rw [hf] at hfl
                have HBW := Lib.hid hbw
                clear hal2 hnu hbw hf
                go_wp2_with (go_at_call 36; refine hfl.mono ?_; clear hfl; rintro e w5 ⟨rfl, hm5, hs5, hz5⟩; have HM5 := Lib.hid hm5; have HS5 := Lib.hid hs5; clear hm5 hs5 hz5)
                go_ret
                rw [HX.out]
                obtain ⟨qA, qn, qc, hm5⟩ := HM5.out
                exact ⟨rfl, ⟨_, _, _, _, _, _, _, _, _, _, _, _, _, _, hm5.wide (fn_wide _ _ _)⟩, ((Step.of_below HBW.out F).trans HS5.out).fn⟩
              | false =>
                have HX := Lib.hid (show doStart s name ⟨nm, st, rq, af⟩ = (⟨s.files, s.users, s.units ++ [⟨nm, st, rq, af⟩], s.plan.tail⟩, 0) by rw [HD.out, if_neg (by rw [hal2]; decide), if_neg (by omega), if_neg (by rw [hf]; decide)])
                rw [hf] at hfl
                have HBW := Lib.hid hbw
                have HBr := Lib.hid hb.out
                clear hal2 hnu hbw hf hb
                go_wp2_with (go_at_call 36; refine hfl.mono ?_; clear hfl; rintro e w5 ⟨rfl, hm5, hs5, hz5⟩; obtain ⟨qA, qn, qc, hm5⟩ := hm5; have hG5 := (HG1.out.below HBr.out HG1.out.lt).step hs5 (fun h9 => Nat.lt_irrefl _ (HFL.out _ h9)); have z0 := hG5.cell 0; have z1 := hG5.cell 1; have z2 := hG5.cell 2; have z3 := hG5.cell 3; have m5 := hm5.facts.2.2.1; have hg5 : g < w5.heap.size := hm5.blk.lt; have HM5 := Lib.hid hm5; have HS5 := Lib.hid hs5; have HZ5 := Lib.hid hz5; clear hm5 hs5 hz5 hG5)
                unfold svArr at z0 z1 z2 z3
                simp only [List.getElem?_toArray, List.getElem?_cons_zero, List.getElem?_cons_succ] at z0 z1 z2 z3
                have hz5r : wr.heap.size = w5.heap.size := HZ5.out.symm
                have hB5 : B ≤ w5.heap.size := by rw [HZ5.out]; exact Nat.le_trans HBB.out HBW.out.size
                have hun := unit_any (w := w5.drew) ⟨nm, st, rq, A, k, c, af, A', n', c'⟩ ((HS1.out.below (HBW.out.mono HBB.out)).apart HS5.out HF1.out).drew ((HS2.out.below (HBW.out.mono HBB.out)).apart HS5.out HF2.out).drew hB5 HN.out
                unfold svArr at hun
                have HNN := Lib.hid (show nn ≤ 1000000000 from Nat.le_trans hnn (by decide))
                go_region_law (first
                  | (go_simp; go_at_call 18; refine hun.mono ?_; clear hun; rintro e9 w9 ⟨u', rfl, hU9⟩; obtain ⟨A4, c4, w10, hst⟩ := start_end HM5.out hU9 HNN.out; have HST := Lib.hid hst; have HSR := Lib.hid hU9.srv; have v9 := hst.cell9; have v9z : g < w9.heap.size := Nat.lt_of_lt_of_le hg5 hU9.bel.size; have r10' := hst.run; unfold svArr at r10'; have r10 := Lib.hid r10'; obtain ⟨v10', f10⟩ := hst.cell10; obtain ⟨cv, v10⟩ := Option.isSome_iff_exists.1 v10'; clear v10'; clear hst hU9 r10')
                  | (refine step_append_at (by rfl) _ _ _ (by rfl) r10.out (by with_reducible rfl) (by rfl) (by rfl) (by rfl) ?_))
                all_goals go_wp2_with (fail)
                all_goals go_ret
                all_goals rw [HX.out]
                all_goals have hM := HST.out.mach
                all_goals rw [HSR.out] at hM
                all_goals exact ⟨rfl, hM.later (by rw [HZ5.out]; exact HBW.out.size), (((Step.of_below HBW.out F).trans HS5.out).trans HST.out.step).fn⟩
      | true =>
        obtain ⟨hi, _⟩ := idxU_at hh
        have hat : atU s.units name = (idxU s.units name : Int) := by unfold atU; rw [if_pos hh]
        obtain ⟨i, hix⟩ : ∃ i, i = idxU s.units name := ⟨_, rfl⟩
        rw [hat, ← hix] at hal
        rw [← hix] at hi
        have hin : i < nn := by have := HNL.out.2; omega
        have hi62 : i ≤ 1000000 := by omega
        have hpos : (0 : Int) ≤ (i : Int) := by omega
        have HIX := Lib.hid hix
        have HHH := Lib.hid hh
        clear hat hh hix
        go_enter Tryd.func26, Tryd.ntmps26
        go_wp2_with (first
          | (go_at_call 48; refine hmay.mono ?_; clear hmay; rintro e w2 ⟨rfl, hb2⟩; have hb2' : Below W1.heap.size W1 w2 := HW1.out ▸ hb2; have y0 : w2.cell? ⟨w.heap.size, 0, none⟩ = some (.string ⟨nm.toArray⟩) := (HG1.out.below hb2' HG1.out.lt).cell 0; have HB2 := Lib.hid hb2'; clear hb2 hb2')
          | (go_at_call 35; refine (hal.out (HB1.out.trans (HB2.out.mono HB1.out.size))).mono ?_; rintro e w3 ⟨rfl, hb3⟩; have HB3 := Lib.hid (HB2.out.trans (hb3.mono HB2.out.size)); clear hb3))
        have hbw3 : Below w.heap.size w w3 := HB1.out.trans (HB3.out.mono HB1.out.size)
        have m2 := (H.out.below hbw3).facts.2.2.1
        obtain ⟨b, off, hnA, hbB, hl, c0, c1, c2, c3, q1, q2⟩ := ((H.out.unitsAt).below hbw3).at_ hin
        subst hnA
        have HGET := Lib.hid (show s.units[i]? = some us[i].srv by rw [← H.out.srvs, List.getElem?_map, List.getElem?_eq_getElem hl]; rfl)
        generalize us[i] = ui at *
        have hG3 := HG1.out.below HB3.out HG1.out.lt
        have z0 := hG3.cell 0
        have z1 := hG3.cell 1
        have z2 := hG3.cell 2
        have z3 := hG3.cell 3
        unfold svArr at z0 z1 z2 z3
        simp only [List.getElem?_toArray, List.getElem?_cons_zero, List.getElem?_cons_succ] at z0 z1 z2 z3
        have hsame := same_any20 (w := w3.drew) ui ⟨nm, st, rq, A, n, c, af, A', n', c'⟩ q1.drew q2.drew ((HS1.out.below (hbw3.mono HBB.out)).more HBB.out).drew ((HS2.out.below (hbw3.mono HBB.out)).more HBB.out).drew hbw3.size
        unfold svArr at hsame
        change Calls _ _ _ _ (fun e w' => e = .returned (.bool (decide (ui.srv = ⟨nm, st, rq, af⟩))) ∧ Below w3.heap.size w3.drew w') at hsame
        obtain ⟨an, asx, ar, aA, an1, ac1, aa, aA2, an2, ac2⟩ := ui
        simp only at c0 c1 c2 c3 hsame
        have HBW3 := Lib.hid hbw3
        clear q1 q2 hG3 hbB hbw3
        refine region_tail 11 (by kernel_rfl) (by kernel_rfl) ?_
        simp only [List.take_succ_cons, List.take_zero, List.drop_succ_cons, List.drop_zero]
        repeat still_step
        refine wpStill_nil ?_
        have HG := Lib.hid (show s.units[idxU s.units name]? = some ⟨an, asx, ar, aa⟩ from HIX.out ▸ HGET.out)
        cases hsm : decide ((⟨an, asx, ar, aa⟩ : Srv) = ⟨nm, st, rq, af⟩) with
        | false =>
          have HX := Lib.hid (show doStart s name ⟨nm, st, rq, af⟩ = (s, 70) by
            unfold doStart
            rw [if_pos ⟨HM.out, HNM.out⟩, if_pos ⟨HHH.out, by rw [HG.out]; intro h9; exact of_decide_eq_false hsm (Option.some.inj h9)⟩])
          have hsame' : Calls Tryd.prog 49 _ _ (fun e w' => e = .returned (.bool false) ∧ Below w3.heap.size w3.drew w') := hsm ▸ hsame
          clear hsame hsm
          go_wp2_with (go_at_call 49; refine hsame'.mono ?_; clear hsame'; rintro e w4 ⟨rfl, hb4⟩; have HB4 := Lib.hid (HBW3.out.trans ((show Below w3.heap.size w3 w4 from ((Below.refl _ w3).drew).trans hb4).mono HBW3.out.size)); clear hb4)
          go_ret
          rw [HX.out]
          exact fin70.out _ HB4.out
        | true =>
          have HD := Lib.hid (show doStart s name ⟨nm, st, rq, af⟩ = if rq.all (hasU s.units) = false then (s, 70) else (s, 0) by
            unfold doStart
            rw [if_pos ⟨HM.out, HNM.out⟩, if_neg (by rw [HG.out, of_decide_eq_true hsm]; intro h9; exact h9.2 rfl), HHH.out]
            simp only [if_true])
          have hsame' : Calls Tryd.prog 49 _ _ (fun e w' => e = .returned (.bool true) ∧ Below w3.heap.size w3.drew w') := hsm ▸ hsame
          clear hsame hsm
          go_wp2_with (go_at_call 49; refine hsame'.mono ?_; clear hsame'; rintro e w4 ⟨rfl, hb4⟩; have hb4' : Below w3.heap.size w3 w4 := ((Below.refl _ w3).drew).trans hb4; have hb4'' := HB3.out.trans (hb4'.mono HB3.out.size); have y2 : w4.cell? ⟨w.heap.size, 2, none⟩ = some (.slice A n c) := (HG1.out.below hb4'' HG1.out.lt).cell 2; have HB4 := Lib.hid hb4''; clear hb4 hb4' hb4'')
          go_loopw [39] (fun i wr => ∃ k : Nat, k ≤ n ∧ i = .int .i64 (k : Int) ∧ Aside ((rq.take k).all (hasU s.units) = true) ∧ Aside (Below W1.heap.size W1 wr)) (fun i _ => n - (intOf i).toNat)
          case atStart => exact ⟨0, Nat.zero_le _, rfl, rfl, HB4.out⟩
          case round =>
            obtain ⟨k, hk, rfl, hall, hb⟩ := hrel
            have hbw : Below w.heap.size w wr := HB1.out.trans (hb.out.mono HB1.out.size)
            by_cases hlt : k < n
            · obtain ⟨b2, off2, rfl, hbB, hc⟩ := (HS1.out.below (hbw.mono HBB.out)).at_ (show 0 < n by omega)
              have hkL : k < rq.length := lt_of_len HU1.out hlt
              have hk1 : k + 1 ≤ n := hlt
              have c9 : wr.cell? ⟨b2, off2 + k, none⟩ = some (.string ⟨rq[k].toArray⟩) := hc k _ (by rw [List.getElem?_map, List.getElem?_eq_getElem hkL]; rfl)
              have hat2 := at_any (H.out.below hbw) rq[k]
              have HTK := Lib.hid (show (rq.take (k + 1)).all (hasU s.units) = hasU s.units rq[k] by rw [List.take_succ_eq_append_getElem hkL, List.all_append, hall.out]; simp)
              have HAL := Lib.hid (show hasU s.units rq[k] = false → rq.all (hasU s.units) = false from fun h9 => by rw [List.all_eq_false]; exact ⟨_, List.getElem_mem hkL, by rw [h9]; decide⟩)
              generalize rq[k] = t at *
              clear hc
              cases hb9 : hasU s.units t with
              | false =>
                rw [show atU s.units t = -1 by unfold atU; rw [if_neg (by rw [hb9]; decide)]] at hat2
                have HX := Lib.hid (show doStart s name ⟨nm, st, rq, af⟩ = (s, 70) by rw [HD.out, if_pos (HAL.out hb9)])
                clear hb9
                go_wp2_with (go_at_call 35; refine hat2.mono ?_; clear hat2; rintro e9 w9 ⟨rfl, hb9⟩; have HB9 := Lib.hid (hbw.trans (hb9.mono hbw.size)); clear hb9)
                go_ret
                rw [HX.out]
                exact fin70.out _ HB9.out
              | true =>
                have hz : ¬ ((idxU s.units t : Int) < 0) := by omega
                rw [show atU s.units t = (idxU s.units t : Int) by unfold atU; rw [if_pos hb9]] at hat2
                have HT := Lib.hid (HTK.out.trans hb9)
                clear hb9
                generalize idxU s.units t = q at *
                go_wp2_with (go_at_call 35; refine hat2.mono ?_; clear hat2; rintro e9 w9 ⟨rfl, hb9⟩; have HB9 := Lib.hid (hb.out.trans (hb9.mono hb.out.size)); clear hb9)
                exact ⟨⟨k + 1, hk1, by go_num, HT.out, HB9.out⟩, by clear HB9 HT; simp [intOf]; omega⟩
            · obtain rfl : k = n := by omega
              have hal2 : rq.all (hasU s.units) = true := by
                have h9 := hall.out
                rwa [List.take_of_length_le (Nat.le_of_eq HU1.out)] at h9
              have HX := Lib.hid (show doStart s name ⟨nm, st, rq, af⟩ = (s, 0) by rw [HD.out, if_neg (by rw [hal2]; decide)])
              have HBW := Lib.hid hbw
              clear hal2 hbw
              go_wp2_with (fail)
              go_ret
              rw [HX.out]
              exact fin0.out _ HBW.out
end Go.Proofs.YtibndaianhlcaaaDoor
namespace Go.Proofs
open Go.Shelf
def Tryd.bsS_ren : Go.Shelf.Ren := ⟨fun | 26 => 46 | 33 => 61 | 34 => 62 | 38 => 75 | n => n, fun | 24 => 29 | 9 => 9 | 3 => 3 | 4 => 4 | 40 => 88 | 0 => 0 | n => n, fun | n => n⟩
theorem Tryd.bsS : Go.Proofs.Lays2.n26 Tryd.prog Tryd.bsS_ren := {
  mixed := by kernel_rfl
  f26 := Tryd.func46.trans (congrArg some (by kernel_rfl))
  f33 := Tryd.func61.trans (congrArg some (by kernel_rfl))
  f34 := Tryd.func62.trans (congrArg some (by kernel_rfl))
  f38 := Tryd.func75.trans (congrArg some (by kernel_rfl))
  t0 := Tryd.underlying0
  a0 := Tryd.isAgg0
  z0 := Tryd.sizeOf0
  v0 := Tryd.zeroValue0
  t3 := Tryd.underlying3
  a3 := Tryd.isAgg3
  z3 := Tryd.sizeOf3
  v3 := Tryd.zeroValue3
  t4 := Tryd.underlying4
  a4 := Tryd.isAgg4
  z4 := Tryd.sizeOf4
  v4 := Tryd.zeroValue4
  t9 := Tryd.underlying9
  a9 := Tryd.isAgg9
  z9 := Tryd.sizeOf9
  v9 := Tryd.zeroValue9
  t24 := Tryd.underlying29
  a24 := Tryd.isAgg29
  z24 := Tryd.sizeOf29
  v24 := Tryd.zeroValue29
  t40 := Tryd.underlying88
  a40 := Tryd.isAgg88
  z40 := Tryd.sizeOf88
  v40 := Tryd.zeroValue88 }
def Tryd.insS_ren : Go.Shelf.Ren := ⟨fun | 22 => 47 | 29 => 63 | 30 => 64 | 36 => 76 | 17 => 85 | n => n, fun | 24 => 29 | 9 => 9 | 3 => 3 | 4 => 4 | 0 => 0 | n => n, fun | n => n⟩
theorem Tryd.insS : Go.Proofs.Lays2.n22 Tryd.prog Tryd.insS_ren := {
  mixed := by kernel_rfl
  f17 := Tryd.func85.trans (congrArg some (by kernel_rfl))
  f22 := Tryd.func47.trans (congrArg some (by kernel_rfl))
  f29 := Tryd.func63.trans (congrArg some (by kernel_rfl))
  f30 := Tryd.func64.trans (congrArg some (by kernel_rfl))
  f36 := Tryd.func76.trans (congrArg some (by kernel_rfl))
  t0 := Tryd.underlying0
  a0 := Tryd.isAgg0
  z0 := Tryd.sizeOf0
  v0 := Tryd.zeroValue0
  t3 := Tryd.underlying3
  a3 := Tryd.isAgg3
  z3 := Tryd.sizeOf3
  v3 := Tryd.zeroValue3
  t4 := Tryd.underlying4
  a4 := Tryd.isAgg4
  z4 := Tryd.sizeOf4
  v4 := Tryd.zeroValue4
  t9 := Tryd.underlying9
  a9 := Tryd.isAgg9
  z9 := Tryd.sizeOf9
  v9 := Tryd.zeroValue9
  t24 := Tryd.underlying29
  a24 := Tryd.isAgg29
  z24 := Tryd.sizeOf29
  v24 := Tryd.zeroValue29
  i9 := by kernel_rfl }
end Go.Proofs
namespace Go.Proofs.YtibndaianhlcaaaDoor
open Go.RowKit Go.Sort Go.Shelf
set_option linter.unusedVariables false
set_option linter.unusedSimpArgs false

theorem bs_any {w : World} {B : Nat} {A : Option Addr} {n c : Nat} {l : List Txt} (h : Slc w B 1 A n c (l.map encStr)) (hr : Rises l) (hn : n ≤ 1000000000) (x : Txt) :
    Calls Tryd.prog 46 #[.slice A n c, .string ⟨x.toArray⟩] w fun e w' => e = .returned (.tuple #[.int .i64 (aheadN l x : Int), .bool (decide (l[aheadN l x]? = some x))]) ∧ ∃ q, w' = w.drewN q := by
  have hl : l.length = n := by have := h.len; simpa using this
  rcases Nat.eq_zero_or_pos n with h0 | h0
  · subst h0
    obtain rfl : l = [] := List.eq_nil_of_length_eq_zero hl
    refine (Any2.slices_BinarySearch_string_empty Tryd.bsS A c ⟨x.toArray⟩ w).mono ?_
    rintro e w' ⟨rfl, rfl⟩
    exact ⟨rfl, 0, rfl⟩
  · obtain ⟨b, off, rfl, _, hc⟩ := h.at_ h0
    have hless : ∀ t, Op.bytesLess (bytesOf (l.getD t x)).toList (ByteArray.mk x.toArray).toList = decide (l.getD t x < x) := fun t => less_str _ _
    have hget : ∀ t (ht : t < l.length), l.getD t x = l[t] := fun t ht => by simp [List.getD, ht]
    have hle := aheadN_le l x
    have hk : Lib.bsGo (fun t => Op.bytesLess (bytesOf (l.getD t x)).toList (ByteArray.mk x.toArray).toList) n 0 n = aheadN l x := by
      refine Lib.bsGo_spec _ (aheadN l x) (fun t ht => ?_) (fun t ht => ?_) n 0 n (by omega) (Nat.zero_le _) (by omega)
      · rw [hless, hget t (by omega)]
        exact decide_eq_true (aheadN_lt l x ht (by omega))
      · rw [hless]
        apply decide_eq_false
        by_cases htl : t < l.length
        · rw [hget t htl]
          rcases Nat.eq_or_lt_of_le ht with h1 | h1
          · subst h1
            exact aheadN_ge l x htl
          · intro h2
            exact aheadN_ge l x (by omega) (List.lt_trans (rises_get hr (by omega) htl h1) h2)
        · have : l.getD t x = x := by simp [List.getD, htl]
          rw [this]
          exact txt_irrefl x
    refine (Any2.slices_BinarySearch_string Tryd.bsS b off n c (fun t => bytesOf (l.getD t x)) ⟨x.toArray⟩ w (by omega) (fun j hj => ?_)).mono ?_
    · have hjl : j < l.length := by omega
      rw [hc j (encStr l[j]) (by rw [List.getElem?_map, List.getElem?_eq_getElem hjl]; rfl), hget j hjl]
      rfl
    · rintro e w' ⟨rfl, hq⟩
      refine ⟨?_, hq⟩
      rw [hk]
      have key : ∀ {p q : Bool}, p = q → Ending.returned (.tuple #[.int .i64 (aheadN l x : Int), .bool p]) = Ending.returned (.tuple #[.int .i64 (aheadN l x : Int), .bool q]) := fun h => by rw [h]
      apply key
      apply decide_eq_decide.2
      constructor
      · rintro ⟨h1, h2⟩
        rw [hget _ (by omega)] at h2
        rw [List.getElem?_eq_getElem (by omega)]
        exact congrArg some (bytesOf_inj h2)
      · intro h1
        obtain ⟨h2, h3⟩ := List.getElem?_eq_some_iff.1 h1
        exact ⟨by omega, by rw [hget _ h2, h3]; rfl⟩

theorem ins_shape {cs L : List Value} {x : Value} {i : Nat} (hi : i ≤ cs.length) (h1 : ∀ j, j < i → L[j]? = cs[j]?) (h2 : L[i]? = some x) (h3 : ∀ j, i ≤ j → j < cs.length → L[j + 1]? = cs[j]?) :
    L.take (cs.length + 1) = cs.take i ++ x :: cs.drop i := by
  apply List.ext_getElem?
  intro j
  have hlt : (cs.take i).length = i := by rw [List.length_take]; omega
  rw [List.getElem?_take]
  rcases Nat.lt_trichotomy j i with h | h | h
  · rw [if_pos (by omega), h1 j h, List.getElem?_append_left (by omega), List.getElem?_take, if_pos h]
  · subst h
    rw [if_pos (by omega), h2, List.getElem?_append_right (by omega), hlt, Nat.sub_self]
    rfl
  · obtain ⟨k, rfl⟩ : ∃ k, j = k + 1 := ⟨j - 1, by omega⟩
    rw [List.getElem?_append_right (by omega), hlt, show k + 1 - i = (k - i) + 1 by omega, List.getElem?_cons_succ, List.getElem?_drop, show i + (k - i) = k by omega]
    by_cases hk : k < cs.length
    · rw [if_pos (by omega), h3 k (by omega) hk]
    · rw [if_neg (by omega), List.getElem?_eq_none (by omega)]
theorem sets_get {cur : Array Value} {vs : List Value} {o : Nat} (h : o + vs.length ≤ cur.size) (j : Nat) : (sets cur o vs).toList[j]? = if j < o then cur.toList[j]? else if j < o + vs.length then vs[j - o]? else cur.toList[j]? := by
  have hcl : cur.toList.length = cur.size := Array.length_toList
  have h1 : (cur.toList.take o).length = o := by rw [List.length_take]; omega
  rw [sets_list _ _ _ h, List.append_assoc]
  by_cases a : j < o
  · rw [if_pos a, List.getElem?_append_left (by omega), List.getElem?_take, if_pos a]
  · rw [if_neg a, List.getElem?_append_right (by omega), h1]
    by_cases b : j < o + vs.length
    · rw [if_pos b, List.getElem?_append_left (by omega)]
    · rw [if_neg b, List.getElem?_append_right (by omega), List.getElem?_drop]
      congr 1
      omega
theorem ins_list1 {cs : List Value} {cur : Array Value} {x : Value} {i : Nat} (hi : i ≤ cs.length) (hs : cs.length + 1 ≤ cur.size) (ht : ∀ j, j < i → cur.toList[j]? = cs[j]?) :
    (sets (sets cur (i + 1) (cs.drop i)) i [x]).toList.take (cs.length + 1) = cs.take i ++ x :: cs.drop i := by
  have hd : (cs.drop i).length = cs.length - i := List.length_drop
  have e1 : i + 1 + (cs.drop i).length ≤ cur.size := by omega
  have e2 : i + [x].length ≤ (sets cur (i + 1) (cs.drop i)).size := by rw [sets_size]; simp; omega
  refine ins_shape hi (fun j hj => ?_) ?_ (fun j hj hjn => ?_)
  · rw [sets_get e2, if_pos hj, sets_get e1, if_pos (by omega)]
    exact ht j hj
  · rw [sets_get e2, if_neg (by omega), if_pos (by simp), Nat.sub_self]
    rfl
  · rw [sets_get e2, if_neg (by omega), if_neg (by simp; omega), sets_get e1, if_neg (by omega), if_pos (by omega), List.getElem?_drop]
    congr 1
    omega
theorem ins_list2 {cs : List Value} {cur : Array Value} {x : Value} {i : Nat} (hi : i ≤ cs.length) (hs : cs.length + 1 ≤ cur.size) (ht : ∀ j, j < i → cur.toList[j]? = cs[j]?) :
    (sets (sets cur i [x]) (i + 1) (cs.drop i)).toList.take (cs.length + 1) = cs.take i ++ x :: cs.drop i := by
  have hd : (cs.drop i).length = cs.length - i := List.length_drop
  have e1 : i + [x].length ≤ cur.size := by simp; omega
  have e2 : i + 1 + (cs.drop i).length ≤ (sets cur i [x]).size := by rw [sets_size]; omega
  refine ins_shape hi (fun j hj => ?_) ?_ (fun j hj hjn => ?_)
  · rw [sets_get e2, if_pos (by omega), sets_get e1, if_pos hj]
    exact ht j hj
  · rw [sets_get e2, if_pos (by omega), sets_get e1, if_neg (by omega), if_pos (by simp), Nat.sub_self]
    rfl
  · rw [sets_get e2, if_neg (by omega), if_pos (by omega), List.getElem?_drop]
    congr 1
    omega
/-- What slices.Insert of one text does. -/
def InsPost (w : World) (F : Nat → Prop) (A : Option Addr) (n c : Nat) (l : List Txt) (i : Nat) (x : Txt) : Ending → World → Prop := fun e w' => ∃ A' c', e = .returned (.slice A' (n + 1) c') ∧ Row w' (Fn F w w') 9 1 (.slice A' (n + 1) c') (n + 1) ((insA l i x).map encStr) ∧ w.grownBy w' (Value.slice A n c).ownBlock ∧
  (∀ k, (Value.slice A' (n + 1) c').ownBlock = some k → (Value.slice A n c).ownBlock = some k ∨ w.heap.size ≤ k)
theorem ins_map (l : List Txt) (i : Nat) (x : Txt) : (insA l i x).map encStr = (l.map encStr).take i ++ encStr x :: (l.map encStr).drop i := by simp [insA, List.map_take, List.map_drop]
/-- The row lies in a block that is new. -/
theorem ins_new {w w' : World} {F : Nat → Prop} {A : Option Addr} {n c cap : Nat} {l : List Txt} {i : Nat} {x : Txt} {cur : Array Value} (hi : i ≤ n) (hl : l.length = n) (hz : w.heap.size < w'.heap.size) (hB : Blk w' w.heap.size 9 cur) (h1 : n + 1 ≤ cap) (h2 : cap ≤ maxLen) (h3 : cur.size = cap) (h4 : cur.toList.take (n + 1) = (l.map encStr).take i ++ encStr x :: (l.map encStr).drop i)
    (hg : w.grownBy w' (Value.slice A n c).ownBlock) : InsPost w F A n c l i x (.returned (.slice (some ⟨w.heap.size, 0, none⟩) (n + 1) cap)) w' := by
  refine ⟨_, _, rfl, ⟨⟨by rw [List.length_map, ins_length, hl]; omega, .inr ⟨w.heap.size, cap, cur, rfl, Nat.zero_le _, hB, h1, h2, by omega, ?_⟩⟩, fun k hk => ?_⟩, hg, fun k hk => ?_⟩
  · rw [Nat.mul_one, h4, ins_map]
  · injection hk with hk
    subst hk
    exact .inr ⟨Nat.le_refl _, hz⟩
  · injection hk with hk
    subst hk
    exact .inr (Nat.le_refl _)
theorem ins_old {w w' : World} {F : Nat → Prop} {g n c : Nat} {l : List Txt} {i : Nat} {x : Txt} {cur : Array Value} (hF : F g) (hl : l.length = n) (hB : Blk w' g 9 cur) (h1 : n + 1 ≤ c) (h2 : c ≤ maxLen) (h3 : cur.size = c) (h4 : cur.toList.take (n + 1) = (l.map encStr).take i ++ encStr x :: (l.map encStr).drop i)
    (hg : w.grownBy w' (some g)) : InsPost w F (some ⟨g, 0, none⟩) n c l i x (.returned (.slice (some ⟨g, 0, none⟩) (n + 1) c)) w' := by
  refine ⟨_, _, rfl, ⟨⟨by rw [List.length_map, ins_length, hl]; omega, .inr ⟨g, c, cur, rfl, Nat.zero_le _, hB, h1, h2, by omega, ?_⟩⟩, fun k hk => ?_⟩, hg, fun k hk => .inl hk⟩
  · rw [Nat.mul_one, h4, ins_map]
  · injection hk with hk
    subst hk
    exact .inl hF
theorem insS_any {w : World} {F : Nat → Prop} {A : Option Addr} {n c : Nat} {l : List Txt} (h : Row w F 9 1 (.slice A n c) n (l.map encStr)) {i : Nat} (hi : i ≤ n) (hn : n ≤ 1000000000) (x : Txt) {vb : Nat} (hv : Blk w vb 9 #[encStr x]) (hvF : ¬ F vb) :
    Calls Tryd.prog 47 #[.slice A n c, .int .i64 (i : Int), .slice (some ⟨vb, 0, none⟩) 1 1] w (InsPost w F A n c l i x) := by
  have hl : l.length = n := by have := h.own.1; simpa using this
  have hcl : (l.map encStr).length = n := by rw [List.length_map, hl]
  have hvs : ∀ j v, [encStr x][j]? = some v → w.cell? ⟨vb, 0 + j, none⟩ = some v := fun j v hj => by
    cases j with
    | zero => rw [hv.cell 0]; simpa using hj
    | succ j => simp at hj
  have h1v : ∀ v ∈ [encStr x], v.oneCell' = true := fun v hv => by rw [List.mem_singleton.1 hv]; rfl
  have h1c := strs_one20 l
  have hbig : (n + 1) * 16 ≤ 140737488355328 := by omega
  have hgc := grownCap_ge w (n + 1) c 9
  have hgm : grownCap w (n + 1) c 9 ≤ maxLen := grownCap_le_maxLen w (n + 1) c _ (by unfold maxLen; omega)
  have hz1 : (Value.string (⟨#[]⟩ : ByteArray)).cells.size = 1 := rfl
  rcases Nat.lt_or_ge c (n + 1) with hroom | hroom
  · -- it grows
    have hnc : n ≤ c := by
      rcases h.own.2 with ⟨e, h0⟩ | ⟨g, cap, cur, e, _, _, h3, _⟩
      · omega
      · injection e with _ _ e3; subst e3; exact h3
    rcases Nat.eq_or_lt_of_le hi with hin | hin
    · subst hin
      refine (Any2.slices_Insert_string_end_grow Tryd.insS A i c vb 0 1 1 (l.map encStr) [encStr x] w (by decide) hnc hroom hbig hcl rfl (fun e => ?_) (fun a e j v hj => ?_) hvs h1v).mono ?_
      · rcases h.own.2 with ⟨_, h0⟩ | ⟨g, cap, cur, e1, _⟩
        · exact h0
        · injection e1 with e1; rw [e] at e1; cases e1
      · obtain ⟨A', c', e1, hs⟩ := h.slc
        injection e1 with e1 _ e3
        subst e1 e3
        have hi0 : 0 < i := by have := (List.getElem?_eq_some_iff.1 hj).1; omega
        obtain ⟨b, off, e2, _, hc⟩ := hs.at_ hi0
        rw [e] at e2
        injection e2 with e2
        subst e2
        rw [addr_of_add]
        exact hc j v hj
      · rintro e w' ⟨he, hw⟩
        have hw : w' = w.drew.alloc (.cells ((l.map encStr ++ [encStr x]).toArray ++ Builtin.zeroCells (Value.string ⟨#[]⟩).cells (grownCap w (i + 1) c 9 - (i + 1))) 9) := hw
        have he : e = .returned (.slice (some ⟨w.heap.size, 0, none⟩) (i + 1) (grownCap w (i + 1) c 9)) := he
        subst hw he
        refine ins_new (Nat.le_refl _) hl (by simp) (Blk.new w.drew _ _) hgc hgm (by simp only [Array.size_append, List.size_toArray, size_zeroCells, hz1, List.length_append, hcl, List.length_cons, List.length_nil]; omega) ?_ ⟨rfl, rfl, rfl, by simp, fun k hk _ => Below.heap_alloc w.drew _ k hk⟩
        rw [Array.toList_append, List.take_append_of_le_length (by simp [hl])]
        rw [List.take_of_length_le (by simp [hl]), List.take_of_length_le (by omega), List.drop_eq_nil_of_le (by omega)]
    · rcases h.own.2 with ⟨_, h0⟩ | ⟨g, cap, cur, e, hb0, hb, hb1, hb2, hb3, hb4⟩
      · omega
      injection e with e1 _ e3
      subst e1 e3
      have hcs : ∀ j v, (l.map encStr)[j]? = some v → w.cell? ⟨g, 0 + j, none⟩ = some v := fun j v hj => by
        have hB : Blk w g 9 cur := hb
        rw [hB.cell, Nat.zero_add, ← Array.getElem?_toList]
        rw [← hb4, List.getElem?_take] at hj
        split at hj
        · exact hj
        · cases hj
      refine (Any2.slices_Insert_string_grow Tryd.insS g 0 n c i vb 0 1 1 (l.map encStr) [encStr x] w hin (by decide) hnc hroom hbig hcl rfl hcs hvs h1c h1v).mono ?_
      rintro e w' ⟨he, hw⟩
      have he : e = .returned (.slice (some ⟨w.heap.size, 0, none⟩) (n + 1) (grownCap w (n + 1) c 9)) := he
      obtain ⟨C0, hC0⟩ : ∃ C0 : Array Value, C0 = ((l.map encStr).take i).toArray ++ Builtin.zeroCells (Value.string ⟨#[]⟩).cells (n + 1 - i) ++ Builtin.zeroCells (Value.string ⟨#[]⟩).cells (grownCap w (n + 1) c 9 - (n + 1)) := ⟨_, rfl⟩
      have hw : w' = (((w.alloc (.cells C0 9)).drew.setCells w.heap.size i [encStr x]).drew).setCells w.heap.size (i + 1) ((l.map encStr).drop i) := by rw [hC0]; exact hw
      have hCs : C0.size = grownCap w (n + 1) c 9 := by
        rw [hC0]
        simp only [Array.size_append, List.size_toArray, size_zeroCells, hz1, List.length_take, hcl]
        omega
      have hCt : ∀ j, j < i → C0.toList[j]? = (l.map encStr)[j]? := fun j hj => by
        rw [hC0, Array.toList_append, Array.toList_append, List.append_assoc, List.getElem?_append_left (by simp [hl]; omega)]
        simp only [List.getElem?_take, if_pos hj]
      have hB1 := Blk.setCells ((l.map encStr).drop i) (i + 1) ((Blk.setCells [encStr x] i ((Blk.new w 9 C0).drew)).drew)
      rw [← hw] at hB1
      have hgb : (w.alloc (.cells C0 9)).grownBy w' (some w.heap.size) := by
        rw [hw]
        have g1 := grownBy_setCells (g := w.heap.size) (a := w.alloc (.cells C0 9)) [encStr x] i (w := (w.alloc (.cells C0 9)).drew) ⟨rfl, rfl, rfl, Nat.le_refl _, fun _ _ _ => rfl⟩
        exact grownBy_setCells _ _ ⟨g1.os, g1.tape, g1.output, g1.size, g1.block⟩
      have hsz := hgb.size
      rw [World.size_alloc] at hsz
      subst he
      refine ins_new hi hl (by omega) hB1 hgc hgm (by rw [sets_size, sets_size, hCs]) ?_ ⟨hgb.os, hgb.tape, hgb.output, by omega, fun k hk _ => by rw [hgb.block k (by simp; omega) (by intro e9; injection e9 with e9; omega), Below.heap_alloc w _ k hk]⟩
      have := ins_list2 (cs := l.map encStr) (cur := C0) (x := encStr x) (i := i) (by omega) (by omega) hCt
      rwa [hcl] at this
  · rcases h.own.2 with ⟨e, h0⟩ | ⟨g, cap, cur, e, hb0, hb, hb1, hb2, hb3, hb4⟩
    · injection e with _ _ e3; omega
    injection e with e1 _ e3
    subst e1 e3
    have hB : Blk w g 9 cur := hb
    have hFg : F g := h.foot g rfl
    have hct : ∀ j, j < n → cur.toList[j]? = (l.map encStr)[j]? := fun j hj => by rw [← hb4, List.getElem?_take, if_pos (by omega)]
    have hc63 : c ≤ 9223372036854775807 := by unfold maxLen at hb2; omega
    rcases Nat.eq_or_lt_of_le hi with hin | hin
    · subst hin
      refine (Any2.slices_Insert_string_end_room Tryd.insS g 0 i c vb 0 1 1 [encStr x] w (by decide) hroom hc63 rfl (fun j hj => by rw [hB.cell, Array.getElem?_eq_getElem (by omega)]; rfl) (fun j hj => hB.frozen _) hvs h1v).mono ?_
      rintro e w' ⟨he, hw⟩
      subst he hw
      refine ins_old hFg hl (Blk.setCells _ _ hB) hroom hb2 (by rw [sets_size]; omega) ?_ (grownBy_setCells _ _ (World.grownBy.refl _ _))
      have := ins_list2 (cs := l.map encStr) (cur := cur) (x := encStr x) (i := i) (by omega) (by omega) hct
      rw [hcl, List.drop_eq_nil_of_le (by omega : (l.map encStr).length ≤ i)] at this
      rw [Nat.zero_add, List.drop_eq_nil_of_le (by omega : (l.map encStr).length ≤ i)]
      exact this
    · have hcs : ∀ j v, (l.map encStr)[j]? = some v → w.cell? ⟨g, 0 + j, none⟩ = some v := fun j v hj => by
        rw [hB.cell, Nat.zero_add, ← Array.getElem?_toList, hct j (by have := (List.getElem?_eq_some_iff.1 hj).1; omega)]
        exact hj
      refine (Any2.slices_Insert_string_shift Tryd.insS g 0 n c i vb 0 1 1 (l.map encStr) [encStr x] w hin (by decide) hroom hc63 (by rintro rfl; exact hvF hFg) hcl rfl hcs (fun j hj => by rw [hB.cell, Array.getElem?_eq_getElem (by omega)]; rfl) (fun j hj => hB.frozen _) hvs h1c h1v 9 9 1 cur.size (by unfold World.shape?; rw [show w.heap[vb]? = _ from hv]; rfl) (by unfold World.shape?; rw [hb]) (by omega) (hv.frozen _) (hv.frozen _)).mono ?_
      rintro e w' ⟨he, hw⟩
      subst he hw
      refine ins_old hFg hl (Blk.setCells _ _ (Blk.setCells _ _ hB.drew)) hroom hb2 (by rw [sets_size, sets_size]; omega) ?_ (grownBy_setCells _ _ (grownBy_setCells _ _ ⟨rfl, rfl, rfl, Nat.le_refl _, fun _ _ _ => rfl⟩))
      have := ins_list1 (cs := l.map encStr) (cur := cur) (x := encStr x) (i := i) (by omega) (by omega) (fun j hj => hct j (by omega))
      rw [hcl] at this
      rw [Nat.zero_add, Nat.zero_add]
      exact this
end Go.Proofs.YtibndaianhlcaaaDoor
