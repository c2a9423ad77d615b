/- machine.start. Contracts of the library laid at this dump. -/
import Derived.Test.YtibndaianhlcaaaGreatDoorPart15
import Derived.Test.YtibndaianhlcaaaGreatDoorPart13
import Derived.Shelf.Spec.SearchS
import Derived.Ground.Names2Prog
import Derived.Shelf.Spec.SlicesInsert
import Derived.Shelf.Spec.SlicesInsertGrow
import Derived.Test.YtibndaianhlcaaaGreatDoorProg
namespace Go.Proofs.YtibndaianhlcaaaGreatDoor
open Go.RowKit Go.Sort Go.Shelf
set_option linter.unusedVariables false
set_option linter.unusedSimpArgs false

/-- A unit is put behind the others. -/
structure StartEnd (w : World) (F : Nat → Prop) (g : Nat) (s : Mach) (w9 : World) (nA : Option Addr) (nn nc : Nat) (u' : SV) (A4 : Option Addr) (c4 : Nat) (w10 : World) : Prop where
  run : (Builtin.append_ #[24, 24] 24 #[.slice nA nn nc, .slice (some ⟨w9.heap.size, 0, none⟩) 1 1]).run Tryz.prog (w9.alloc (.cells (svArr u') 59)) = .ok (.slice A4 (nn + 1) c4) w10
  cell9 : w9.cell? ⟨g, 2, none⟩ = some (.slice nA nn nc)
  cell10 : (w10.cell? ⟨g, 2, none⟩).isSome = true ∧ w10.frozen? ⟨g, 2, none⟩ = false
  mach : MachAt (w10.setCell ⟨g, 2, none⟩ (.slice A4 (nn + 1) c4)) (Fn F w (w10.setCell ⟨g, 2, none⟩ (.slice A4 (nn + 1) c4))) g ⟨s.files, s.users, s.units ++ [u'.srv], s.plan⟩
  step : Step w (w10.setCell ⟨g, 2, none⟩ (.slice A4 (nn + 1) c4)) F (Fn F w (w10.setCell ⟨g, 2, none⟩ (.slice A4 (nn + 1) c4)))
theorem start_end {w : World} {F : Nat → Prop} {g : Nat} {s : Mach} {fA : Option Addr} {fn fc : Nat} {es : List EV} {uA : Option Addr} {un uc : Nat} {nA : Option Addr} {nn nc : Nat} {us : List SV} {pA : Option Addr} {pn pc : Nat} (h : MachV w F g s fA fn fc es uA un uc nA nn nc us pA pn pc)
    {w9 : World} {x : Srv} {u' : SV} (hout : UnitOut w.drew w9 x u') (hn : nn ≤ 1000000000) : ∃ A4 c4 w10, StartEnd w F g s w9 nA nn nc u' A4 c4 w10 := by
  have hb9 : Below w.heap.size w w9 := ((Below.refl _ w).drew).trans hout.bel
  have h9 := (h.below hb9).wide (fn_wide F w w9)
  have own : ∀ {v : Value} {n : Nat} {xs : List Value}, w9.ownsRow w.heap.size 9 1 v n xs → Row w9 (Fn F w w9) 9 1 v n xs := fun hr =>
    ⟨⟨hr.1, hr.2.imp id fun ⟨g, cap, cur, e, _, r⟩ => ⟨g, cap, cur, e, Nat.zero_le _, r⟩⟩, fun k hk => .inr (hr.lt k hk)⟩
  have hU : OwnU w9 (Fn F w w9) nA nn nc us := ⟨h9.units, h9.req, h9.aft⟩
  obtain ⟨A4, c4, w10, r, h2, hg⟩ := hU.append u' (own hout.own1) (own hout.own2) hn
  have hlt : ∀ k, (Value.slice uA un uc).ownBlock = some k → k < w.heap.size := fun k hk => (h.users.own.lt k hk).2
  have hs := h9.setUnits (w' := w10) hg (G := Fn (Fn F w w9) w9 w10) (fn_wide _ _ _) h2.row (fun v hv => by
    rcases List.mem_append.1 hv with hv | hv
    · exact .inl hv
    · rw [List.mem_singleton.1 hv]
      refine .inr ⟨h2.req _ (List.mem_append_right _ (List.mem_singleton.2 rfl)), h2.aft _ (List.mem_append_right _ (List.mem_singleton.2 rfl)), fun k hk => ⟨fun e => ?_, fun e => ?_⟩⟩
      · have h3 : w.heap.size ≤ k := (hout.own1.lt k e).1
        have := hlt k hk; omega
      · have h3 : w.heap.size ≤ k := (hout.own2.lt k e).1
        have := hlt k hk; omega)
  have hsz : (w10.setCell ⟨g, 2, none⟩ (.slice A4 (nn + 1) c4)).heap.size = w10.heap.size := by simp [World.setCell]
  have hst := (((Step.of_below hb9 F).grown hg (fun k hk => by
    rcases h9.units.foot k hk with h3 | h3
    · exact .inl h3
    · exact .inr h3.1)).setCell (p := ⟨g, 2, none⟩) (.inl h.foot) (.slice A4 (nn + 1) c4))
  have hgk := grown_other hg (row_typed h9.units) (e := 53) (by decide) g _ (0, 0) h9.blk
  have hB10 : Blk w10 g 53 _ := hgk.trans h9.blk
  have h91 := hb9.size
  have h92 := hg.size
  refine ⟨A4, c4, w10, r, h9.facts.2.2.1, ⟨by rw [hB10.cell 2]; rfl, hB10.frozen 2⟩, ?_, hst.fn⟩
  rw [List.map_append, h9.srvs] at hs
  refine ⟨_, _, _, _, _, _, _, _, _, _, _, _, _, _, hs.wide fun k hk => ?_⟩
  unfold Fn
  rw [hsz]
  rcases hk with (hk | hk) | hk
  · exact .inl hk
  · exact .inr ⟨hk.1, by omega⟩
  · exact .inr ⟨by omega, hk.2⟩
theorem MachAt.later {w w5 w' : World} {F : Nat → Prop} {g : Nat} {s : Mach} (h : MachAt w' (Fn F w5 w') g s) (hs : w.heap.size ≤ w5.heap.size) : MachAt w' (Fn F w w') g s := by
  obtain ⟨fA, fn, fc, es, uA, un, uc, nA, nn, nc, us, pA, pn, pc, h⟩ := h
  refine ⟨fA, fn, fc, es, uA, un, uc, nA, nn, nc, us, pA, pn, pc, h.wide fun k hk => ?_⟩
  rcases hk with hk | hk
  · exact .inl hk
  · exact .inr ⟨by omega, hk.2⟩
/-- An empty slice lies nowhere. -/
theorem Slc.apart0 {w w' : World} {F G : Nat → Prop} {B sz : Nat} {A : Option Addr} {n c : Nat} {xs : List Value} (h : Slc w B sz A n c xs) (s : Step w w' F G) (hsep : 0 < n → ∀ a, A = some a → ¬ F a.block) : Slc w' B sz A n c xs := by
  rcases Nat.eq_zero_or_pos n with h0 | h0
  · exact ⟨h.len, h.le, h.cmax, fun hn => by omega⟩
  · exact h.apart s (hsep h0)
theorem lt_of_len {k n m : Nat} (h : m = n) (hk : k < n) : k < m := by omega
set_option maxRecDepth 100000 in
set_option maxHeartbeats 4000000 in
theorem start_any {w : World} {F : Nat → Prop} {g : Nat} {s : Mach} (h : MachAt w F g s) (hn24 : s.units.length ≤ 1000000) (name : Txt) {B : Nat} (u : SV) (h1 : Slc w B 1 u.A u.n u.c (u.req.map encStr)) (h2 : Slc w B 1 u.A2 u.n2 u.c2 (u.aft.map encStr)) (hB : B ≤ w.heap.size) (hn : u.n ≤ 1000000000 ∧ u.n2 ≤ 1000000000)
    (hs : ∀ t ∈ u.name :: (u.req ++ u.aft), t.length ≤ 1000000000) (hst : u.start.length ≤ 1000000000) (hF1 : 0 < u.n → ∀ a, u.A = some a → ¬ F a.block) (hF2 : 0 < u.n2 → ∀ a, u.A2 = some a → ¬ F a.block) (hFl : ∀ k, F k → k < w.heap.size) :
    Calls Tryz.prog 90 #[.pointer (some ⟨g, 2, none⟩), .string ⟨name.toArray⟩, .agg (svArr u)] w (MachPost w F g (doStart s name u.srv)) := by
  obtain ⟨fA, fn, fc, es, uA, un, uc, nA, nn, nc, us, pA, pn, pc, h⟩ := h
  obtain ⟨W1, hW1⟩ : ∃ W1, W1 = w.alloc (.cells (svArr u) 59) := ⟨_, rfl⟩
  have hb1 : Below w.heap.size w W1 := by rw [hW1]; exact (Below.refl _ w).alloc (Nat.le_refl _) _
  have hG1 : Blk W1 w.heap.size 59 (svArr u) := by rw [hW1]; exact Blk.new _ _ _
  have hz1 : W1.heap.size = w.heap.size + 1 := by rw [hW1]; simp
  have hmay := may_any20 u (h1.below (hb1.mono hB)) (h2.below (hb1.mono hB)) (by omega) hn hs hst
  have hnl := h.nlen
  have HNL := Lib.hid hnl
  have H := Lib.hid h
  have HG1 := Lib.hid hG1
  have HB1 := Lib.hid hb1
  have HS1 := Lib.hid h1
  have HS2 := Lib.hid h2
  have HF1 := Lib.hid hF1
  have HF2 := Lib.hid hF2
  have HN := Lib.hid hn
  have HFL := Lib.hid hFl
  have HBB := Lib.hid hB
  have hnn : nn ≤ 1000000 := by omega
  have HU1 := Lib.hid (show u.req.length = u.n by have := h1.len; simpa using this)
  obtain ⟨nm, st, rq, A, n, c, af, A', n', c'⟩ := u
  have hn1 : n ≤ 1000000000 := hn.1
  have x0 := hG1.cell 0
  have x1 := hG1.cell 1
  have x2 := hG1.cell 2
  have x3 := hG1.cell 3
  rw [hW1] at hmay x0 x1 x2 x3
  have HW1 := Lib.hid hW1
  unfold svArr at hmay x0 x1 x2 x3 ⊢
  simp only [List.getElem?_toArray, List.getElem?_cons_zero, List.getElem?_cons_succ] at x0 x1 x2 x3
  have tn : (ByteArray.mk name.toArray).toList = name := Go.ByteArray.toList_eq _
  have tm : (ByteArray.mk nm.toArray).toList = nm := Go.ByteArray.toList_eq _
  clear h h1 h2 hF1 hF2 hn hB hb1 hG1 hW1 hs hst hnl hz1 hFl
  have hbad : Hid (¬ (mayU ⟨nm, st, rq, af⟩ = true ∧ name = nm) → doStart s name ⟨nm, st, rq, af⟩ = (s, 70)) := fun h9 => by unfold doStart; rw [if_neg h9]
  change Calls Tryz.prog 90 _ w (MachPost w F g (doStart s name ⟨nm, st, rq, af⟩))
  change Calls Tryz.prog 118 _ _ (fun e w' => e = .returned (.bool (mayU ⟨nm, st, rq, af⟩)) ∧ _) at hmay
  have fin70 : Hid (∀ w', Below w.heap.size w w' → MachPost w F g (s, 70) (.returned (.int .i64 70)) w') := fun w' hb => ⟨rfl, ⟨fA, fn, fc, es, uA, un, uc, nA, nn, nc, us, pA, pn, pc, (H.out.below hb).wide (fn_wide _ _ _)⟩, (Step.of_below hb F).fn⟩
  have fin0 : Hid (∀ w', Below w.heap.size w w' → MachPost w F g (s, 0) (.returned (.int .i64 0)) w') := fun w' hb => ⟨rfl, ⟨fA, fn, fc, es, uA, un, uc, nA, nn, nc, us, pA, pn, pc, (H.out.below hb).wide (fn_wide _ _ _)⟩, (Step.of_below hb F).fn⟩
  cases hm : mayU ⟨nm, st, rq, af⟩ with
  | false =>
    have HX := Lib.hid (hbad.out (fun h9 => by rw [hm] at h9; exact absurd h9.1 (by decide)))
    rw [hm] at hmay
    clear hm hbad
    go_enter Tryz.func90, Tryz.ntmps90
    go_wp2_with (go_at_call 118; refine hmay.mono ?_; clear hmay; rintro e w2 ⟨rfl, hb2⟩)
    go_ret
    rw [HX.out]
    exact fin70.out _ (HB1.out.trans ((HW1.out ▸ hb2 : Below W1.heap.size W1 w2).mono HB1.out.size))
  | true =>
    rw [hm] at hmay
    cases hnm : (name == nm) with
    | false =>
      have HX := Lib.hid (hbad.out (fun h9 => by rw [h9.2] at hnm; simp at hnm))
      clear hm hbad
      go_enter Tryz.func90, Tryz.ntmps90
      go_wp2_with (go_at_call 118; refine hmay.mono ?_; clear hmay; rintro e w2 ⟨rfl, hb2⟩; have y0 : w2.cell? ⟨w.heap.size, 0, none⟩ = some (.string ⟨nm.toArray⟩) := ((HG1.out.below (HW1.out ▸ hb2 : Below W1.heap.size W1 w2) HG1.out.lt)).cell 0)
      go_ret
      rw [HX.out]
      exact fin70.out _ (HB1.out.trans ((HW1.out ▸ hb2 : Below W1.heap.size W1 w2).mono HB1.out.size))
    | true =>
      have HNM := Lib.hid (show name = nm by simpa using hnm)
      have HM := Lib.hid hm
      clear hm hbad
      have hal : Hid (∀ {W : World}, Below w.heap.size w W → Calls Tryz.prog 108 #[.pointer (some ⟨g, 2, none⟩), .string ⟨name.toArray⟩] W fun e w' => e = .returned (.int .i64 (atU s.units name)) ∧ Below W.heap.size W w') := fun hb => at_any (H.out.below hb) name
      cases hh : hasU s.units name with
      | false =>
        have hat : atU s.units name = -1 := by unfold atU; rw [if_neg (by rw [hh]; decide)]
        have HD := Lib.hid (show doStart s name ⟨nm, st, rq, af⟩ = if rq.all (hasU s.units) = false then (s, 70) else if s.units.length = 24 then (s, 70) else if failsP s.plan = true then (⟨s.files, s.users, s.units, s.plan.tail⟩, 71) else (⟨s.files, s.users, s.units ++ [⟨nm, st, rq, af⟩], s.plan.tail⟩, 0) by
          unfold doStart
          rw [if_pos ⟨HM.out, HNM.out⟩, if_neg (by rw [hh]; intro h9; exact absurd h9.1 (by decide)), hh]
          simp only [Bool.false_eq_true, if_false])
        rw [hat] at hal
        clear hat hh
        go_enter Tryz.func90, Tryz.ntmps90
        go_wp2_with (first
          | (go_at_call 118; refine hmay.mono ?_; clear hmay; rintro e w2 ⟨rfl, hb2⟩; have hb2' : Below W1.heap.size W1 w2 := HW1.out ▸ hb2; have y0 : w2.cell? ⟨w.heap.size, 0, none⟩ = some (.string ⟨nm.toArray⟩) := (HG1.out.below hb2' HG1.out.lt).cell 0; have HB2 := Lib.hid hb2'; clear hb2 hb2')
          | (go_at_call 108; refine (hal.out (HB1.out.trans (HB2.out.mono HB1.out.size))).mono ?_; rintro e w3 ⟨rfl, hb3⟩; have hb3' := HB2.out.trans (hb3.mono HB2.out.size); have y2 : w3.cell? ⟨w.heap.size, 2, none⟩ = some (.slice A n c) := (HG1.out.below hb3' HG1.out.lt).cell 2; have HB3 := Lib.hid hb3'; clear hb3 hb3'))
        go_quiet (fail)
        go_wp2_with (fail)
        go_loopw [39] (fun i wr => ∃ k : Nat, k ≤ n ∧ i = .int .i64 (k : Int) ∧ Aside ((rq.take k).all (hasU s.units) = true) ∧ Aside (Below W1.heap.size W1 wr)) (fun i _ => n - (intOf i).toNat)
        case atStart => exact ⟨0, Nat.zero_le _, rfl, rfl, bel_drewN HB3.out _⟩
        case round =>
          obtain ⟨k, hk, rfl, hall, hb⟩ := hrel
          have hbw : Below w.heap.size w wr := HB1.out.trans (hb.out.mono HB1.out.size)
          by_cases hlt : k < n
          · obtain ⟨b, off, rfl, hbB, hc⟩ := (HS1.out.below (hbw.mono HBB.out)).at_ (show 0 < n by omega)
            have hkL : k < rq.length := lt_of_len HU1.out hlt
            have hk1 : k + 1 ≤ n := hlt
            have c0 : wr.cell? ⟨b, off + k, none⟩ = some (.string ⟨rq[k].toArray⟩) := hc k _ (by rw [List.getElem?_map, List.getElem?_eq_getElem hkL]; rfl)
            have hat2 := at_any (H.out.below hbw) rq[k]
            have HTK := Lib.hid (show (rq.take (k + 1)).all (hasU s.units) = hasU s.units rq[k] by rw [List.take_succ_eq_append_getElem hkL, List.all_append, hall.out]; simp)
            have HAL := Lib.hid (show hasU s.units rq[k] = false → rq.all (hasU s.units) = false from fun h9 => by rw [List.all_eq_false]; exact ⟨_, List.getElem_mem hkL, by rw [h9]; decide⟩)
            generalize rq[k] = t at *
            clear hc
            cases hb9 : hasU s.units t with
            | false =>
              rw [show atU s.units t = -1 by unfold atU; rw [if_neg (by rw [hb9]; decide)]] at hat2
              have HX := Lib.hid (show doStart s name ⟨nm, st, rq, af⟩ = (s, 70) by rw [HD.out, if_pos (HAL.out hb9)])
              clear hb9
              go_wp2_with (go_at_call 108; refine hat2.mono ?_; clear hat2; rintro e9 w9 ⟨rfl, hb9⟩; have HB9 := Lib.hid (hbw.trans (hb9.mono hbw.size)); clear hb9)
              go_ret
              rw [HX.out]
              exact fin70.out _ HB9.out
            | true =>
              have hz : ¬ ((idxU s.units t : Int) < 0) := by omega
              rw [show atU s.units t = (idxU s.units t : Int) by unfold atU; rw [if_pos hb9]] at hat2
              have HT := Lib.hid (HTK.out.trans hb9)
              clear hb9
              generalize idxU s.units t = q at *
              go_wp2_with (go_at_call 108; refine hat2.mono ?_; clear hat2; rintro e9 w9 ⟨rfl, hb9⟩; have HB9 := Lib.hid (hb.out.trans (hb9.mono hb.out.size)); clear hb9)
              exact ⟨⟨k + 1, hk1, by go_num, HT.out, HB9.out⟩, by clear HB9 HT; simp [intOf]; omega⟩
          · obtain rfl : k = n := by omega
            have hal2 : rq.all (hasU s.units) = true := by
              have h9 := hall.out
              rwa [List.take_of_length_le (Nat.le_of_eq HU1.out)] at h9
            have hnu := HNL.out.2
            have hgw : g < wr.heap.size := Nat.lt_of_lt_of_le H.out.blk.lt hbw.size
            have m2 := (H.out.below hbw).facts.2.2.1
            by_cases h24 : nn = 24
            · have HX := Lib.hid (show doStart s name ⟨nm, st, rq, af⟩ = (s, 70) by rw [HD.out, if_neg (by rw [hal2]; decide), if_pos (by omega)])
              have HBW := Lib.hid hbw
              have h24b : ((nn : Int) == 24) = true := by rw [h24]; rfl
              clear hal2 hnu hbw
              go_wp2_with (fail)
              go_ret
              rw [HX.out]
              exact fin70.out _ HBW.out
            · have hfl := fails_any (H.out.below hbw)
              have h24b : ((nn : Int) == 24) = false := by rw [beq_eq_false_iff_ne]; omega
              cases hf : failsP s.plan with
              | true =>
                have HX := Lib.hid (show doStart s name ⟨nm, st, rq, af⟩ = (⟨s.files, s.users, s.units, s.plan.tail⟩, 71) by rw [HD.out, if_neg (by rw [hal2]; decide), if_neg (by omega), if_pos hf])
                rw [hf] at hfl
                have HBW := Lib.hid hbw
                clear hal2 hnu hbw hf
                go_wp2_with (go_at_call 109; refine hfl.mono ?_; clear hfl; rintro e w5 ⟨rfl, hm5, hs5, hz5⟩; have HM5 := Lib.hid hm5; have HS5 := Lib.hid hs5; clear hm5 hs5 hz5)
                go_ret
                rw [HX.out]
                obtain ⟨qA, qn, qc, hm5⟩ := HM5.out
                exact ⟨rfl, ⟨_, _, _, _, _, _, _, _, _, _, _, _, _, _, hm5.wide (fn_wide _ _ _)⟩, ((Step.of_below HBW.out F).trans HS5.out).fn⟩
              | false =>
                have HX := Lib.hid (show doStart s name ⟨nm, st, rq, af⟩ = (⟨s.files, s.users, s.units ++ [⟨nm, st, rq, af⟩], s.plan.tail⟩, 0) by rw [HD.out, if_neg (by rw [hal2]; decide), if_neg (by omega), if_neg (by rw [hf]; decide)])
                rw [hf] at hfl
                have HBW := Lib.hid hbw
                have HBr := Lib.hid hb.out
                clear hal2 hnu hbw hf hb
                go_wp2_with (go_at_call 109; refine hfl.mono ?_; clear hfl; rintro e w5 ⟨rfl, hm5, hs5, hz5⟩; obtain ⟨qA, qn, qc, hm5⟩ := hm5; have hG5 := (HG1.out.below HBr.out HG1.out.lt).step hs5 (fun h9 => Nat.lt_irrefl _ (HFL.out _ h9)); have z0 := hG5.cell 0; have z1 := hG5.cell 1; have z2 := hG5.cell 2; have z3 := hG5.cell 3; have m5 := hm5.facts.2.2.1; have hg5 : g < w5.heap.size := hm5.blk.lt; have HM5 := Lib.hid hm5; have HS5 := Lib.hid hs5; have HZ5 := Lib.hid hz5; clear hm5 hs5 hz5 hG5)
                unfold svArr at z0 z1 z2 z3
                simp only [List.getElem?_toArray, List.getElem?_cons_zero, List.getElem?_cons_succ] at z0 z1 z2 z3
                have hz5r : wr.heap.size = w5.heap.size := HZ5.out.symm
                have hB5 : B ≤ w5.heap.size := by rw [HZ5.out]; exact Nat.le_trans HBB.out HBW.out.size
                have hun := unit_any (w := w5.drew) ⟨nm, st, rq, A, k, c, af, A', n', c'⟩ ((HS1.out.below (HBW.out.mono HBB.out)).apart0 HS5.out HF1.out).drew ((HS2.out.below (HBW.out.mono HBB.out)).apart0 HS5.out HF2.out).drew hB5 HN.out
                unfold svArr at hun
                have HNN := Lib.hid (show nn ≤ 1000000000 from Nat.le_trans hnn (by decide))
                go_region_law (first
                  | (go_simp; go_at_call 58; refine hun.mono ?_; clear hun; rintro e9 w9 ⟨u', rfl, hU9⟩; obtain ⟨A4, c4, w10, hst⟩ := start_end HM5.out hU9 HNN.out; have HST := Lib.hid hst; have HSR := Lib.hid hU9.srv; have v9 := hst.cell9; have v9z : g < w9.heap.size := Nat.lt_of_lt_of_le hg5 hU9.bel.size; have r10' := hst.run; unfold svArr at r10'; have r10 := Lib.hid r10'; obtain ⟨v10', f10⟩ := hst.cell10; obtain ⟨cv, v10⟩ := Option.isSome_iff_exists.1 v10'; clear v10'; clear hst hU9 r10')
                  | (refine step_append_at (by rfl) _ _ _ (by rfl) r10.out (by with_reducible rfl) (by rfl) (by rfl) (by rfl) ?_))
                all_goals go_wp2_with (fail)
                all_goals go_ret
                all_goals rw [HX.out]
                all_goals have hM := HST.out.mach
                all_goals rw [HSR.out] at hM
                all_goals exact ⟨rfl, hM.later (by rw [HZ5.out]; exact HBW.out.size), (((Step.of_below HBW.out F).trans HS5.out).trans HST.out.step).fn⟩
      | true =>
        obtain ⟨hi, _⟩ := idxU_at hh
        have hat : atU s.units name = (idxU s.units name : Int) := by unfold atU; rw [if_pos hh]
        obtain ⟨i, hix⟩ : ∃ i, i = idxU s.units name := ⟨_, rfl⟩
        rw [hat, ← hix] at hal
        rw [← hix] at hi
        have hin : i < nn := by have := HNL.out.2; omega
        have hi62 : i ≤ 1000000 := by omega
        have hpos : (0 : Int) ≤ (i : Int) := by omega
        have HIX := Lib.hid hix
        have HHH := Lib.hid hh
        clear hat hh hix
        go_enter Tryz.func90, Tryz.ntmps90
        go_wp2_with (first
          | (go_at_call 118; refine hmay.mono ?_; clear hmay; rintro e w2 ⟨rfl, hb2⟩; have hb2' : Below W1.heap.size W1 w2 := HW1.out ▸ hb2; have y0 : w2.cell? ⟨w.heap.size, 0, none⟩ = some (.string ⟨nm.toArray⟩) := (HG1.out.below hb2' HG1.out.lt).cell 0; have HB2 := Lib.hid hb2'; clear hb2 hb2')
          | (go_at_call 108; refine (hal.out (HB1.out.trans (HB2.out.mono HB1.out.size))).mono ?_; rintro e w3 ⟨rfl, hb3⟩; have HB3 := Lib.hid (HB2.out.trans (hb3.mono HB2.out.size)); clear hb3))
        have hbw3 : Below w.heap.size w w3 := HB1.out.trans (HB3.out.mono HB1.out.size)
        have m2 := (H.out.below hbw3).facts.2.2.1
        obtain ⟨b, off, hnA, hbB, hl, c0, c1, c2, c3, q1, q2⟩ := ((H.out.unitsAt).below hbw3).at_ hin
        subst hnA
        have HGET := Lib.hid (show s.units[i]? = some us[i].srv by rw [← H.out.srvs, List.getElem?_map, List.getElem?_eq_getElem hl]; rfl)
        generalize us[i] = ui at *
        have hG3 := HG1.out.below HB3.out HG1.out.lt
        have z0 := hG3.cell 0
        have z1 := hG3.cell 1
        have z2 := hG3.cell 2
        have z3 := hG3.cell 3
        unfold svArr at z0 z1 z2 z3
        simp only [List.getElem?_toArray, List.getElem?_cons_zero, List.getElem?_cons_succ] at z0 z1 z2 z3
        have hsame := same_any20 (w := w3.drew) ui ⟨nm, st, rq, A, n, c, af, A', n', c'⟩ q1.drew q2.drew ((HS1.out.below (hbw3.mono HBB.out)).more HBB.out).drew ((HS2.out.below (hbw3.mono HBB.out)).more HBB.out).drew hbw3.size
        unfold svArr at hsame
        change Calls _ _ _ _ (fun e w' => e = .returned (.bool (decide (ui.srv = ⟨nm, st, rq, af⟩))) ∧ Below w3.heap.size w3.drew w') at hsame
        obtain ⟨an, asx, ar, aA, an1, ac1, aa, aA2, an2, ac2⟩ := ui
        simp only at c0 c1 c2 c3 hsame
        have HBW3 := Lib.hid hbw3
        clear q1 q2 hG3 hbB hbw3
        refine region_tail 11 (by kernel_rfl) (by kernel_rfl) ?_
        simp only [List.take_succ_cons, List.take_zero, List.drop_succ_cons, List.drop_zero]
        repeat still_step
        refine wpStill_nil ?_
        have HG := Lib.hid (show s.units[idxU s.units name]? = some ⟨an, asx, ar, aa⟩ from HIX.out ▸ HGET.out)
        cases hsm : decide ((⟨an, asx, ar, aa⟩ : Srv) = ⟨nm, st, rq, af⟩) with
        | false =>
          have HX := Lib.hid (show doStart s name ⟨nm, st, rq, af⟩ = (s, 70) by
            unfold doStart
            rw [if_pos ⟨HM.out, HNM.out⟩, if_pos ⟨HHH.out, by rw [HG.out]; intro h9; exact of_decide_eq_false hsm (Option.some.inj h9)⟩])
          have hsame' : Calls Tryz.prog 119 _ _ (fun e w' => e = .returned (.bool false) ∧ Below w3.heap.size w3.drew w') := hsm ▸ hsame
          clear hsame hsm
          go_wp2_with (go_at_call 119; refine hsame'.mono ?_; clear hsame'; rintro e w4 ⟨rfl, hb4⟩; have HB4 := Lib.hid (HBW3.out.trans ((show Below w3.heap.size w3 w4 from ((Below.refl _ w3).drew).trans hb4).mono HBW3.out.size)); clear hb4)
          go_ret
          rw [HX.out]
          exact fin70.out _ HB4.out
        | true =>
          have HD := Lib.hid (show doStart s name ⟨nm, st, rq, af⟩ = if rq.all (hasU s.units) = false then (s, 70) else (s, 0) by
            unfold doStart
            rw [if_pos ⟨HM.out, HNM.out⟩, if_neg (by rw [HG.out, of_decide_eq_true hsm]; intro h9; exact h9.2 rfl), HHH.out]
            simp only [if_true])
          have hsame' : Calls Tryz.prog 119 _ _ (fun e w' => e = .returned (.bool true) ∧ Below w3.heap.size w3.drew w') := hsm ▸ hsame
          clear hsame hsm
          go_wp2_with (go_at_call 119; refine hsame'.mono ?_; clear hsame'; rintro e w4 ⟨rfl, hb4⟩; have hb4' : Below w3.heap.size w3 w4 := ((Below.refl _ w3).drew).trans hb4; have hb4'' := HB3.out.trans (hb4'.mono HB3.out.size); have y2 : w4.cell? ⟨w.heap.size, 2, none⟩ = some (.slice A n c) := (HG1.out.below hb4'' HG1.out.lt).cell 2; have HB4 := Lib.hid hb4''; clear hb4 hb4' hb4'')
          go_loopw [39] (fun i wr => ∃ k : Nat, k ≤ n ∧ i = .int .i64 (k : Int) ∧ Aside ((rq.take k).all (hasU s.units) = true) ∧ Aside (Below W1.heap.size W1 wr)) (fun i _ => n - (intOf i).toNat)
          case atStart => exact ⟨0, Nat.zero_le _, rfl, rfl, HB4.out⟩
          case round =>
            obtain ⟨k, hk, rfl, hall, hb⟩ := hrel
            have hbw : Below w.heap.size w wr := HB1.out.trans (hb.out.mono HB1.out.size)
            by_cases hlt : k < n
            · obtain ⟨b2, off2, rfl, hbB, hc⟩ := (HS1.out.below (hbw.mono HBB.out)).at_ (show 0 < n by omega)
              have hkL : k < rq.length := lt_of_len HU1.out hlt
              have hk1 : k + 1 ≤ n := hlt
              have c9 : wr.cell? ⟨b2, off2 + k, none⟩ = some (.string ⟨rq[k].toArray⟩) := hc k _ (by rw [List.getElem?_map, List.getElem?_eq_getElem hkL]; rfl)
              have hat2 := at_any (H.out.below hbw) rq[k]
              have HTK := Lib.hid (show (rq.take (k + 1)).all (hasU s.units) = hasU s.units rq[k] by rw [List.take_succ_eq_append_getElem hkL, List.all_append, hall.out]; simp)
              have HAL := Lib.hid (show hasU s.units rq[k] = false → rq.all (hasU s.units) = false from fun h9 => by rw [List.all_eq_false]; exact ⟨_, List.getElem_mem hkL, by rw [h9]; decide⟩)
              generalize rq[k] = t at *
              clear hc
              cases hb9 : hasU s.units t with
              | false =>
                rw [show atU s.units t = -1 by unfold atU; rw [if_neg (by rw [hb9]; decide)]] at hat2
                have HX := Lib.hid (show doStart s name ⟨nm, st, rq, af⟩ = (s, 70) by rw [HD.out, if_pos (HAL.out hb9)])
                clear hb9
                go_wp2_with (go_at_call 108; refine hat2.mono ?_; clear hat2; rintro e9 w9 ⟨rfl, hb9⟩; have HB9 := Lib.hid (hbw.trans (hb9.mono hbw.size)); clear hb9)
                go_ret
                rw [HX.out]
                exact fin70.out _ HB9.out
              | true =>
                have hz : ¬ ((idxU s.units t : Int) < 0) := by omega
                rw [show atU s.units t = (idxU s.units t : Int) by unfold atU; rw [if_pos hb9]] at hat2
                have HT := Lib.hid (HTK.out.trans hb9)
                clear hb9
                generalize idxU s.units t = q at *
                go_wp2_with (go_at_call 108; refine hat2.mono ?_; clear hat2; rintro e9 w9 ⟨rfl, hb9⟩; have HB9 := Lib.hid (hb.out.trans (hb9.mono hb.out.size)); clear hb9)
                exact ⟨⟨k + 1, hk1, by go_num, HT.out, HB9.out⟩, by clear HB9 HT; simp [intOf]; omega⟩
            · obtain rfl : k = n := by omega
              have hal2 : rq.all (hasU s.units) = true := by
                have h9 := hall.out
                rwa [List.take_of_length_le (Nat.le_of_eq HU1.out)] at h9
              have HX := Lib.hid (show doStart s name ⟨nm, st, rq, af⟩ = (s, 0) by rw [HD.out, if_neg (by rw [hal2]; decide)])
              have HBW := Lib.hid hbw
              clear hal2 hbw
              go_wp2_with (fail)
              go_ret
              rw [HX.out]
              exact fin0.out _ HBW.out
end Go.Proofs.YtibndaianhlcaaaGreatDoor
namespace Go.Proofs
open Go.Shelf
def Tryz.bsS_ren : Go.Shelf.Ren := ⟨fun | 26 => 116 | 33 => 137 | 34 => 138 | 38 => 158 | n => n, fun | 24 => 23 | 9 => 9 | 3 => 3 | 4 => 4 | 40 => 159 | 0 => 0 | n => n, fun | n => n⟩
theorem Tryz.bsS : Go.Proofs.Lays2.n26 Tryz.prog Tryz.bsS_ren := {
  mixed := by kernel_rfl
  f26 := Tryz.func116.trans (congrArg some (by kernel_rfl))
  f33 := Tryz.func137.trans (congrArg some (by kernel_rfl))
  f34 := Tryz.func138.trans (congrArg some (by kernel_rfl))
  f38 := Tryz.func158.trans (congrArg some (by kernel_rfl))
  t0 := Tryz.underlying0
  a0 := Tryz.isAgg0
  z0 := Tryz.sizeOf0
  v0 := Tryz.zeroValue0
  t3 := Tryz.underlying3
  a3 := Tryz.isAgg3
  z3 := Tryz.sizeOf3
  v3 := Tryz.zeroValue3
  t4 := Tryz.underlying4
  a4 := Tryz.isAgg4
  z4 := Tryz.sizeOf4
  v4 := Tryz.zeroValue4
  t9 := Tryz.underlying9
  a9 := Tryz.isAgg9
  z9 := Tryz.sizeOf9
  v9 := Tryz.zeroValue9
  t24 := Tryz.underlying23
  a24 := Tryz.isAgg23
  z24 := Tryz.sizeOf23
  v24 := Tryz.zeroValue23
  t40 := Tryz.underlying159
  a40 := Tryz.isAgg159
  z40 := Tryz.sizeOf159
  v40 := Tryz.zeroValue159 }
def Tryz.insS_ren : Go.Shelf.Ren := ⟨fun | 22 => 117 | 29 => 139 | 30 => 140 | 36 => 159 | 17 => 171 | n => n, fun | 24 => 23 | 9 => 9 | 3 => 3 | 4 => 4 | 0 => 0 | n => n, fun | n => n⟩
theorem Tryz.insS : Go.Proofs.Lays2.n22 Tryz.prog Tryz.insS_ren := {
  mixed := by kernel_rfl
  f17 := Tryz.func171.trans (congrArg some (by kernel_rfl))
  f22 := Tryz.func117.trans (congrArg some (by kernel_rfl))
  f29 := Tryz.func139.trans (congrArg some (by kernel_rfl))
  f30 := Tryz.func140.trans (congrArg some (by kernel_rfl))
  f36 := Tryz.func159.trans (congrArg some (by kernel_rfl))
  t0 := Tryz.underlying0
  a0 := Tryz.isAgg0
  z0 := Tryz.sizeOf0
  v0 := Tryz.zeroValue0
  t3 := Tryz.underlying3
  a3 := Tryz.isAgg3
  z3 := Tryz.sizeOf3
  v3 := Tryz.zeroValue3
  t4 := Tryz.underlying4
  a4 := Tryz.isAgg4
  z4 := Tryz.sizeOf4
  v4 := Tryz.zeroValue4
  t9 := Tryz.underlying9
  a9 := Tryz.isAgg9
  z9 := Tryz.sizeOf9
  v9 := Tryz.zeroValue9
  t24 := Tryz.underlying23
  a24 := Tryz.isAgg23
  z24 := Tryz.sizeOf23
  v24 := Tryz.zeroValue23
  i9 := by kernel_rfl }
end Go.Proofs
