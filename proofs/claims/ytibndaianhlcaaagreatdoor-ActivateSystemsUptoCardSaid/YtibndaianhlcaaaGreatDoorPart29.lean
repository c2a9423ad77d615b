/- The reference of layer 20: start. The reference of layer 20: start, the walk. -/
import Derived.Test.YtibndaianhlcaaaGreatDoorPart26
namespace Go.Proofs.YtibndaianhlcaaaGreatDoor
open Go.RowKit Go.Sort Go.Shelf
set_option linter.unusedVariables false
set_option linter.unusedSimpArgs false

section
variable {w w' : World} {R : Nat → Prop} {r : Nat} {s : Mach} {o : OV} {pA : Option Addr} {pn pc : Nat}
/-- The unit in a variable, its lists in blocks of their own. -/
structure RSMid (w : World) (R : Nat → Prop) (W : World) (r : Nat) (s : Mach) (o : OV) (pA : Option Addr) (pn pc : Nat) (v : Nat) (u : SV) : Prop where
  ref : RefV W (Fn R w W) r s o pA pn pc
  st : Step w W (fun k => k = r) (fun k => k = r)
  var : Blk W v 59 (svArr u)
  req : Slc W W.heap.size 1 u.A u.n u.c (u.req.map encStr)
  aft : Slc W W.heap.size 1 u.A2 u.n2 u.c2 (u.aft.map encStr)
  rfoot : ∀ a, u.A = some a → Fn R w W a.block
  afoot : ∀ a, u.A2 = some a → Fn R w W a.block
theorem fn_more {W W' : World} (hb : W.heap.size ≤ W'.heap.size) : ∀ k, Fn R w W k → Fn R w W' k := fun k hk => hk.imp id fun h => ⟨h.1, Nat.lt_of_lt_of_le h.2 hb⟩
theorem RSMid.below {W W' : World} {v : Nat} {u : SV} (h : RSMid w R W r s o pA pn pc v u) (hR : ¬ R r) (hrw : r < w.heap.size) (hb : Below W.heap.size W W') : RSMid w R W' r s o pA pn pc v u :=
  ⟨(h.ref.below hb).wide (fn_more hb.size) (fun hk => by rcases hk with hk | hk; exact hR hk; omega), h.st.trans (Step.of_below hb _), h.var.below hb h.var.lt, (h.req.below hb).more hb.size, (h.aft.below hb).more hb.size, fun a ha => fn_more hb.size _ (h.rfoot a ha), fun a ha => fn_more hb.size _ (h.afoot a ha)⟩
theorem RSMid.held {W : World} {v : Nat} {u : SV} (M : RSMid w R W r s o pA pn pc v u) : W.cell? ⟨r, 2, none⟩ = some (.slice o.A3 o.n3 o.c3) ∧ W.cell? ⟨v, 0, none⟩ = some (.string ⟨u.name.toArray⟩) ∧ W.cell? ⟨v, 1, none⟩ = some (.string ⟨u.start.toArray⟩) ∧ W.cell? ⟨v, 2, none⟩ = some (.slice u.A u.n u.c) ∧ W.cell? ⟨v, 3, none⟩ = some (.slice u.A2 u.n2 u.c2) := ⟨M.ref.facts.2.2.1, M.var.cell 0, M.var.cell 1, M.var.cell 2, M.var.cell 3⟩
theorem RSMid.put {W w9 : World} {v : Nat} {u : SV} (h : RSMid w R W r s o pA pn pc v u) (hR : ¬ R r) (hrw : r < w.heap.size) (hb9 : Below W.heap.size W w9) {A9 : Option Addr} {c9 : Nat} (ho : w9.ownsRow W.heap.size 59 4 (.slice A9 (o.n3 + 1) c9) (o.n3 + 1) (o.us.flatMap svCells ++ (svArr u).toList)) :
    RefPost w R r (⟨s.files, s.users, s.units ++ [u.srv], s.plan⟩, 0) (.returned (.int .i64 0)) (w9.setCell ⟨r, 2, none⟩ (.slice A9 (o.n3 + 1) c9)) := by
  have h9 := h.below hR hrw hb9
  have hz := h.st.size
  have he : o.us.flatMap svCells ++ (svArr u).toList = (o.us ++ [u]).flatMap svCells := by rw [List.flatMap_append]; simp [svArr, svCells]
  rw [he] at ho
  have hl : (o.us ++ [u]).length = o.n3 + 1 := by rw [List.length_append, h.ref.obs.at_.units.len]; rfl
  have hU := h9.ref.obs.at_.units
  have hset := h9.ref.setUnits (us := o.us ++ [u]) ⟨own_slc_of ho, hl, fun x hx => by
    rcases List.mem_append.1 hx with hx | hx
    · exact hU.req x hx
    · rw [List.mem_singleton.1 hx]; exact h9.req, fun x hx => by
    rcases List.mem_append.1 hx with hx | hx
    · exact hU.aft x hx
    · rw [List.mem_singleton.1 hx]; exact h9.aft⟩ (fun a ha => by have := own_in ho a ha; exact .inr ⟨by omega, this.2⟩) (fun x hx => by
    rcases List.mem_append.1 hx with hx | hx
    · exact ⟨h9.ref.obs.req x hx, h9.ref.obs.aft x hx⟩
    · rw [List.mem_singleton.1 hx]; exact ⟨h9.rfoot, h9.afoot⟩)
  refine ⟨rfl, ?_, h.st.trans (step_bel_set hb9 r 2 _)⟩
  rw [fn_set]
  rw [List.map_append, h9.ref.srvs] at hset
  exact ⟨_, _, _, _, hset⟩
/-- The two lists are copied. -/
structure RSCopy (w : World) (R : Nat → Prop) (w8 : World) (r : Nat) (s : Mach) (o : OV) (pA : Option Addr) (pn pc : Nat) (v : Nat) (u : SV) (g9 c9 : Nat) (w10 : World) (g12 c12 : Nat) (w12 : World) : Prop where
  r9 : (Builtin.append_ #[23, 23] 23 #[.slice (some ⟨w8.heap.size, 0, none⟩) 0 0, .slice u.A u.n u.c]).run Tryz.prog (w8.alloc (.cells #[] 9)) = .ok (.slice (some ⟨g9, 0, none⟩) u.n c9) w10
  v0 : w8.cell? ⟨v, 2, none⟩ = some (.slice u.A u.n u.c)
  v1 : w10.cell? ⟨v, 2, none⟩ = some (.slice u.A u.n u.c)
  f1 : w10.frozen? ⟨v, 2, none⟩ = false
  l8 : v < w8.heap.size
  l10 : v < w10.heap.size
  v3 : w10.cell? ⟨v, 3, none⟩ = some (.slice u.A2 u.n2 u.c2)
  r12 : (Builtin.append_ #[23, 23] 23 #[.slice (some ⟨w10.heap.size, 0, none⟩) 0 0, .slice u.A2 u.n2 u.c2]).run Tryz.prog ((w10.setCell ⟨v, 2, none⟩ (.slice (some ⟨g9, 0, none⟩) u.n c9)).alloc (.cells #[] 9)) = .ok (.slice (some ⟨g12, 0, none⟩) u.n2 c12) w12
  v4 : w12.cell? ⟨v, 3, none⟩ = some (.slice u.A2 u.n2 u.c2)
  f4 : w12.frozen? ⟨v, 3, none⟩ = false
  mid : RSMid w R (w12.setCell ⟨v, 3, none⟩ (.slice (some ⟨g12, 0, none⟩) u.n2 c12)) r s o pA pn pc v ⟨u.name, u.start, u.req, some ⟨g9, 0, none⟩, u.n, c9, u.aft, some ⟨g12, 0, none⟩, u.n2, c12⟩
theorem rs_copy {w8 : World} {S : Nat → Prop} {v : Nat} (h : RefV w8 S r s o pA pn pc) (hS : ∀ k, S k → Fn R w w8 k) (hSv : ¬ S v) (hR : ¬ R r) (hrw : r < w.heap.size) (hst : Step w w8 (fun k => k = r) (fun k => k = r)) {u : SV} (hrv : r ≠ v) (hv : Blk w8 v 59 (svArr u)) (hvw : w.heap.size ≤ v) (h1 : Slc w8 w8.heap.size 1 u.A u.n u.c (u.req.map encStr)) {C : Nat} (h2 : Slc w8 C 1 u.A2 u.n2 u.c2 (u.aft.map encStr)) (hC : C ≤ v) (hn : u.n ≤ 1000000000 ∧ u.n2 ≤ 1000000000) :
    ∃ g9 c9 w10 g12 c12 w12, RSCopy w R w8 r s o pA pn pc v u g9 c9 w10 g12 c12 w12 := by
  obtain ⟨g9, c9, w10, S9⟩ := strs_copy (W := w8) h1 (Nat.le_refl _) hn.1
  have hv10 := hv.below S9.bel hv.lt
  have hz10 := S9.bel.size
  have hlt := hv.lt
  obtain ⟨W11, hW11⟩ : ∃ W11, W11 = w10.setCell ⟨v, 2, none⟩ (.slice (some ⟨g9, 0, none⟩) u.n c9) := ⟨_, rfl⟩
  have hz11 : W11.heap.size = w10.heap.size := by rw [hW11]; simp [World.setCell]
  have hv11 : Blk W11 v 59 ((svArr u).setIfInBounds 2 (.slice (some ⟨g9, 0, none⟩) u.n c9)) := by rw [hW11]; exact hv10.set_ 2 (.slice (some ⟨g9, 0, none⟩) u.n c9)
  have hst11 : Step w W11 (fun k => k = r) (fun k => k = r) := by rw [hW11]; exact (hst.trans (Step.of_below S9.bel _)).setCell (p := ⟨v, 2, none⟩) (.inr hvw) _
  have st811 : Step w8 W11 (fun k => k = v) (fun k => k = v) := by rw [hW11]; exact (Step.of_below S9.bel (fun k => k = v)).setCell (p := ⟨v, 2, none⟩) (.inl rfl) _
  have h2' : Slc W11 C 1 u.A2 u.n2 u.c2 (u.aft.map encStr) := h2.below (st811.below (by omega) (fun k hk => by omega))
  obtain ⟨g12, c12, w12, S12⟩ := strs_copy (W := W11) h2' (by omega) hn.2
  have hr12 := S12.run
  rw [hz11, hW11] at hr12
  have hv12 := hv11.below S12.bel hv11.lt
  have hg9 := S9.ge
  have hg9l := S9.lt
  have hg12 := S12.ge
  have hg12l := S12.lt
  have hz12 := S12.bel.size
  have ho11 : W11.ownsRow w8.heap.size 9 1 (.slice (some ⟨g9, 0, none⟩) u.n c9) u.n (u.req.map encStr) := by rw [hW11]; exact own_put S9.own (by simp only [Value.ownBlock]; intro e; injection e with e; omega) _
  have ho12 := own_keep ho11 (fun k hk => S12.bel.block k (ho11.lt k hk).2)
  have hz13 : (w12.setCell ⟨v, 3, none⟩ (.slice (some ⟨g12, 0, none⟩) u.n2 c12)).heap.size = w12.heap.size := by simp [World.setCell]
  have ho13 := own_put (p := ⟨v, 3, none⟩) ho12 (by simp only [Value.ownBlock]; intro e; injection e with e; omega) (.slice (some ⟨g12, 0, none⟩) u.n2 c12)
  have hp13 := own_put (p := ⟨v, 3, none⟩) S12.own (by simp only [Value.ownBlock]; intro e; injection e with e; omega) (.slice (some ⟨g12, 0, none⟩) u.n2 c12)
  have hst13 : Step w (w12.setCell ⟨v, 3, none⟩ (.slice (some ⟨g12, 0, none⟩) u.n2 c12)) (fun k => k = r) (fun k => k = r) := (hst11.trans (Step.of_below S12.bel _)).setCell (p := ⟨v, 3, none⟩) (.inr hvw) _
  have st8 : Step w8 (w12.setCell ⟨v, 3, none⟩ (.slice (some ⟨g12, 0, none⟩) u.n2 c12)) (fun k => k = v) (fun k => k = v) := (st811.trans (Step.of_below S12.bel _)).setCell (p := ⟨v, 3, none⟩) (.inl rfl) _
  have hz8 := hst.size
  refine ⟨g9, c9, w10, g12, c12, w12, S9.run, hv.cell 2, hv10.cell 2, hv10.frozen 2, hlt, by omega, hv10.cell 3, hr12, hv12.cell 3, hv12.frozen 3, ?_⟩
  have hout : ¬ Fn R w (w12.setCell ⟨v, 3, none⟩ (.slice (some ⟨g12, 0, none⟩) u.n2 c12)) r := fun hk => by rcases hk with hk | hk; exact hR hk; omega
  have hv13 := hv12.set_ 3 (.slice (some ⟨g12, 0, none⟩) u.n2 c12)
  have hf : ∀ k, S k → Fn R w (w12.setCell ⟨v, 3, none⟩ (.slice (some ⟨g12, 0, none⟩) u.n2 c12)) k := fun k hk => fn_more (by rw [hz13]; omega) k (hS k hk)
  refine ⟨(h.step st8 (fun k hk e => hSv (by rw [← show k = v from e]; exact hk)) (fun e => hrv e)).wide hf hout, hst13, hv13, own_slc_of ho13, own_slc_of hp13, fun a ha => ?_, fun a ha => ?_⟩
  · have := own_in ho13 a ha; exact .inr ⟨by omega, this.2⟩
  · have := own_in hp13 a ha; exact .inr ⟨by omega, this.2⟩
end
end Go.Proofs.YtibndaianhlcaaaGreatDoor
namespace Go.Proofs.YtibndaianhlcaaaGreatDoor
open Go.RowKit Go.Sort Go.Shelf
set_option linter.unusedVariables false
set_option linter.unusedSimpArgs false

section
variable {w w' : World} {R : Nat → Prop} {r : Nat} {s : Mach} {o : OV} {pA : Option Addr} {pn pc : Nat}
set_option maxRecDepth 100000 in
set_option maxHeartbeats 8000000 in
theorem refStart20_any (h : RefV w R r s o pA pn pc) (hRl : ∀ k, R k → k < w.heap.size) (hn : pn ≤ 1000000000) (hn3 : o.n3 ≤ 1000000) {B : Nat} (a : AV) (ha : ActAt w B a) (hB : B ≤ w.heap.size) (hs : SmallA a) (hsep : (0 < a.unit.n → ∀ x, a.unit.A = some x → x.block ≠ r) ∧ (0 < a.unit.n2 → ∀ x, a.unit.A2 = some x → x.block ≠ r)) :
    Calls Tryz.prog 55 #[.pointer (some ⟨r, 0, none⟩), .agg (avArr a)] w (RefPost w R r (doStart s a.name a.unit.srv)) := by
  have hl := h.lens
  have hrw := h.blk.lt
  have hout := h.out
  obtain ⟨W1, hW1⟩ : ∃ W1, W1 = w.alloc (.cells (avArr a) 61) := ⟨_, rfl⟩
  obtain ⟨W2, hW2⟩ : ∃ W2, W2 = W1.alloc (.cells (svArr a.unit) 59) := ⟨_, rfl⟩
  have hb1 : Below w.heap.size w W1 := by rw [hW1]; exact (Below.refl _ w).alloc (Nat.le_refl _) _
  have hz1 : W1.heap.size = w.heap.size + 1 := by rw [hW1]; simp
  have hb2 : Below w.heap.size w W2 := by rw [hW2]; exact hb1.alloc (by omega) _
  have hG1 : Blk W1 w.heap.size 61 (avArr a) := by rw [hW1]; exact Blk.new _ _ _
  have hG2 : Blk W2 w.heap.size 61 (avArr a) := by rw [hW2]; exact hG1.alloc _
  have hV2 : Blk W2 (w.heap.size + 1) 59 (svArr a.unit) := by rw [← hz1, hW2]; exact Blk.new _ _ _
  have hmay := refMay_any (w := W2) a.unit (ha.req.below (hb2.mono hB)) (ha.aft.below (hb2.mono hB)) (Nat.le_trans hB hb2.size) hs.lens.2 hs.texts hs.start
  have hbad : Hid (¬ (mayU a.unit.srv = true ∧ a.name = a.unit.name) → doStart s a.name a.unit.srv = (s, 70)) := fun h9 => by unfold doStart; exact if_neg h9
  have fin : Hid (∀ k w', Below w.heap.size w w' → RefPost w R r (s, k) (.returned (.int .i64 k)) w') := fun k w' hb => ⟨rfl, ⟨_, _, _, _, (h.below hb).wide (fn_wide _ _ _) (h.fn w')⟩, (Step.of_below hb (fun k => k = r))⟩
  have H := Lib.hid h
  have HA := Lib.hid ha
  have HBB := Lib.hid hB
  have HB2 := Lib.hid hb2
  have HG2 := Lib.hid hG2
  have HV2 := Lib.hid hV2
  have HL := Lib.hid hl
  have HN := Lib.hid hn
  have HN3 := Lib.hid hn3
  have HLENS := Lib.hid hs.lens
  have HSEP := Lib.hid hsep
  have HRL := Lib.hid hRl
  have HSRV := Lib.hid h.srvs
  have x5 := hG1.cell 5
  have x6 := hG1.cell 6
  have x7 := hG1.cell 7
  have x8 := hG1.cell 8
  obtain ⟨kind, name, ⟨fp, fk, fd, fA, fn, fc⟩, ⟨nm, st, rq, A', n', c', af, A2', n2', c2'⟩⟩ := a
  have HU1 := Lib.hid (show rq.length = n' by have := ha.req.len; simpa using this)
  rw [hW2, hW1] at hmay
  rw [hW1] at x5 x6 x7 x8
  have hWW := hW2
  rw [hW1] at hWW
  unfold avArr svArr at hWW
  unfold avArr svArr at hmay
  unfold avArr at x5 x6 x7 x8 ⊢
  simp only [List.getElem?_toArray, List.getElem?_cons_zero, List.getElem?_cons_succ] at x5 x6 x7 x8
  simp only at hWW hmay x5 x6 x7 x8 ⊢
  have HWW := Lib.hid hWW
  change Calls _ _ _ _ (RefPost w R r (doStart s name ⟨nm, st, rq, af⟩))
  change Hid (¬ (mayU ⟨nm, st, rq, af⟩ = true ∧ name = nm) → doStart s name ⟨nm, st, rq, af⟩ = (s, 70)) at hbad
  change Calls Tryz.prog 46 _ _ (fun e w' => e = .returned (.bool (mayU ⟨nm, st, rq, af⟩)) ∧ _) at hmay
  have tn : (ByteArray.mk name.toArray).toList = name := Go.ByteArray.toList_eq _
  have tm : (ByteArray.mk nm.toArray).toList = nm := Go.ByteArray.toList_eq _
  clear h hl ha hB hs hb1 hz1 hb2 hG1 hG2 hV2 hW1 hW2 hWW hRl hsep hn hn3
  cases hm : mayU ⟨nm, st, rq, af⟩ with
  | false =>
    rw [hm] at hmay
    have HX := Lib.hid (hbad.out (fun h9 => by rw [hm] at h9; exact absurd h9.1 (by decide)))
    clear hm hbad
    go_enter Tryz.func55, Tryz.ntmps55
    go_wp2_with (go_at_call 46; refine hmay.mono ?_; clear hmay; rintro e w3 ⟨rfl, hb3⟩; rw [← HWW.out] at hb3)
    go_ret
    rw [HX.out]
    exact fin.out 70 _ (HB2.out.trans (hb3.mono HB2.out.size))
  | true =>
    rw [hm] at hmay
    cases hnm : (name == nm) with
    | false =>
      have HX := Lib.hid (hbad.out (fun h9 => by rw [h9.2] at hnm; simp at hnm))
      clear hm hbad
      go_enter Tryz.func55, Tryz.ntmps55
      go_wp2_with (go_at_call 46; refine hmay.mono ?_; clear hmay; rintro e w3 ⟨rfl, hb3⟩; rw [← HWW.out] at hb3; have hG3 := HG2.out.below hb3 HG2.out.lt; have hV3 := HV2.out.below hb3 HV2.out.lt; have y1 := hG3.cell 1; have z0 := hV3.cell 0; unfold avArr at y1; unfold svArr at z0; simp only [List.getElem?_toArray, List.getElem?_cons_zero, List.getElem?_cons_succ] at y1 z0; clear hG3 hV3)
      go_ret
      rw [HX.out]
      exact fin.out 70 _ (HB2.out.trans (hb3.mono HB2.out.size))
    | true =>
      have hnm' : name = nm := by simpa using hnm
      subst hnm'
      have HM := Lib.hid hm
      clear hm hnm hbad x5 x6 x7 x8
      have hal : Hid (∀ {W : World}, Below w.heap.size w W → ∀ t : Txt, Calls Tryz.prog 93 #[.pointer (some ⟨r, 0, none⟩), .string ⟨t.toArray⟩] W fun e w' => e = .returned (.int .i64 (atU s.units t)) ∧ w' = W) := fun hb t => refAt20_any (H.out.below hb) t
      have HV : Hid (∀ {W : World}, Below W2.heap.size W2 W → W.cell? ⟨w.heap.size + 1, 0, none⟩ = some (.string ⟨name.toArray⟩) ∧ W.cell? ⟨w.heap.size + 1, 1, none⟩ = some (.string ⟨st.toArray⟩) ∧ W.cell? ⟨w.heap.size + 1, 2, none⟩ = some (.slice A' n' c') ∧ W.cell? ⟨w.heap.size + 1, 3, none⟩ = some (.slice A2' n2' c2') ∧ W.cell? ⟨w.heap.size, 1, none⟩ = some (.string ⟨name.toArray⟩)) := fun hb => by
        have hG3 := HG2.out.below hb HG2.out.lt
        have hV3 := HV2.out.below hb HV2.out.lt
        exact ⟨hV3.cell 0, hV3.cell 1, hV3.cell 2, hV3.cell 3, hG3.cell 1⟩
      cases hh : hasU s.units name with
      | false =>
        have HD := Lib.hid (show doStart s name ⟨name, st, rq, af⟩ = if rq.all (hasU s.units) = false then (s, 70) else if s.units.length = 24 then (s, 70) else if failsP s.plan = true then (⟨s.files, s.users, s.units, s.plan.tail⟩, 71) else (⟨s.files, s.users, s.units ++ [⟨name, st, rq, af⟩], s.plan.tail⟩, 0) by
          unfold doStart
          rw [if_pos ⟨HM.out, rfl⟩, if_neg (by rw [hh]; intro h9; exact absurd h9.1 (by decide)), hh]
          simp only [Bool.false_eq_true, if_false])
        have hat0 : atU s.units name = -1 := by unfold atU; rw [if_neg (by rw [hh]; decide)]
        have HAT := Lib.hid hat0
        clear hh hat0
        go_enter Tryz.func55, Tryz.ntmps55
        go_wp2_with (first
          | (go_at_call 46; refine hmay.mono ?_; clear hmay; rintro e w3 ⟨rfl, hb3⟩; rw [← HWW.out] at hb3; obtain ⟨z0, z1, z2, z3, y1⟩ := HV.out hb3; have hat := hal.out (HB2.out.trans (hb3.mono HB2.out.size)) name; rw [HAT.out] at hat; have HB3 := Lib.hid hb3; clear hb3)
          | (go_at_call 93; refine hat.mono ?_; clear hat; rintro e w4 ⟨rfl, rfl⟩))
        clear z0 z1 z2 z3 y1
        have hn9 : n' ≤ 1000000000 := HLENS.out.2.1
        go_loopw [9] (fun i wr => ∃ k : Nat, k ≤ n' ∧ i = .int .i64 (k : Int) ∧ Aside ((rq.take k).all (hasU s.units) = true) ∧ Aside (Below W2.heap.size W2 wr)) (fun i _ => n' - (intOf i).toNat)
        case atStart => exact ⟨0, Nat.zero_le _, rfl, rfl, HB3.out⟩
        case round =>
          obtain ⟨k, hk, rfl, hall, hb⟩ := hrel
          obtain ⟨z0, z1, z2, z3, y1⟩ := HV.out hb.out
          have hbw : Below w.heap.size w wr := HB2.out.trans (hb.out.mono HB2.out.size)
          by_cases hlt : k < n'
          · obtain ⟨b, off, hA, hbB, hkL, c0⟩ := txtAt (HA.out.req.below (hbw.mono HBB.out)) hlt
            simp only at hA hkL c0
            have hat := hal.out hbw rq[k]
            have HTK := Lib.hid (show (rq.take (k + 1)).all (hasU s.units) = hasU s.units rq[k] by rw [List.take_succ_eq_append_getElem hkL, List.all_append, hall.out]; simp)
            have HAL := Lib.hid (show hasU s.units rq[k] = false → rq.all (hasU s.units) = false from fun h9 => by rw [List.all_eq_false]; exact ⟨_, List.getElem_mem hkL, by rw [h9]; decide⟩)
            subst hA
            generalize rq[k] = t at *
            cases hb9 : hasU s.units t with
            | false =>
              rw [show atU s.units t = -1 by unfold atU; rw [if_neg (by rw [hb9]; decide)]] at hat
              have HX := Lib.hid (show doStart s name ⟨name, st, rq, af⟩ = (s, 70) by rw [HD.out, if_pos (HAL.out hb9)])
              clear hb9
              go_wp2_with (go_at_call 93; refine hat.mono ?_; clear hat; rintro e9 w9 ⟨rfl, rfl⟩)
              go_ret
              rw [HX.out]
              exact fin.out 70 _ hbw
            | true =>
              have hz : ¬ ((idxU s.units t : Int) < 0) := by omega
              rw [show atU s.units t = (idxU s.units t : Int) by unfold atU; rw [if_pos hb9]] at hat
              have HT := Lib.hid (HTK.out.trans hb9)
              clear hb9
              generalize idxU s.units t = q at *
              go_wp2_with (go_at_call 93; refine hat.mono ?_; clear hat; rintro e9 w9 ⟨rfl, rfl⟩)
              exact ⟨⟨k + 1, hlt, by go_num, HT.out, hb.out⟩, by clear HT; simp [intOf]; omega⟩
          · obtain rfl : k = n' := by omega
            have hal2 : rq.all (hasU s.units) = true := by
              have h9 := hall.out
              rwa [List.take_of_length_le (Nat.le_of_eq HU1.out)] at h9
            have HRw := Lib.hid (H.out.below hbw)
            have m2 := HRw.out.facts.2.2.1
            have hnu := HL.out.2.2.2.1
            by_cases h24 : o.n3 = 24
            · have HX := Lib.hid (show doStart s name ⟨name, st, rq, af⟩ = (s, 70) by rw [HD.out, if_neg (by rw [hal2]; decide), if_pos (by omega)])
              have h24b : ((o.n3 : Int) == 24) = true := by rw [h24]; rfl
              clear hal2 hnu h24
              go_wp2_with (fail)
              go_ret
              rw [HX.out]
              exact fin.out 70 _ hbw
            · have h24b : ((o.n3 : Int) == 24) = false := by rw [beq_eq_false_iff_ne]; omega
              have htry := refTry20_any HRw.out HN.out
              unfold TryPost at htry
              cases hf : failsP s.plan with
              | true =>
                have HX := Lib.hid (show doStart s name ⟨name, st, rq, af⟩ = (⟨s.files, s.users, s.units, s.plan.tail⟩, 71) by rw [HD.out, if_neg (by rw [hal2]; decide), if_neg (by omega), if_pos hf])
                rw [hf] at htry
                have HBW := Lib.hid hbw
                clear hal2 hnu hf h24
                go_wp2_with (go_at_call 94; refine htry.mono ?_; clear htry; rintro e w8 ⟨rfl, ⟨qA, qn, qc, hv8, -⟩, hst8⟩)
                go_ret
                rw [HX.out]
                have hs8 := hst8.size
                have hsw := HBW.out.size
                exact ⟨rfl, ⟨_, _, _, _, hv8.wide (fun k9 hk9 => hk9.imp id fun h => ⟨by omega, h.2⟩) (fun hk9 => by rcases hk9 with h | h; exact hout h; omega)⟩, (Step.of_below HBW.out _).trans hst8⟩
              | false =>
                have HX := Lib.hid (show doStart s name ⟨name, st, rq, af⟩ = (⟨s.files, s.users, s.units ++ [⟨name, st, rq, af⟩], s.plan.tail⟩, 0) by rw [HD.out, if_neg (by rw [hal2]; decide), if_neg (by omega), if_neg (by rw [hf]; decide)])
                rw [hf] at htry
                have HBW := Lib.hid hbw
                have hVr : Blk wr (w.heap.size + 1) 59 (svArr ⟨name, st, rq, A', k, c', af, A2', n2', c2'⟩) := HV2.out.below hb.out HV2.out.lt
                have HVr := Lib.hid hVr
                clear hal2 hnu hf h24 hVr
                go_wp2_with (first
                  | (go_at_call 94; refine htry.mono ?_; clear htry; rintro e w8 ⟨rfl, ⟨qA, qn, qc, hv8, -⟩, hst8⟩; obtain ⟨g9, c9, w10, g12, c12, w12, S⟩ := rs_copy hv8 (fun k9 hk9 => hk9.imp id fun h => ⟨by have := HBW.out.size; omega, h.2⟩) (fun hk9 => by rcases hk9 with h | h; have := HRL.out _ h; omega; have := HVr.out.lt; omega) hout hrw ((Step.of_below HBW.out _).trans hst8) (by omega) (HVr.out.step hst8 (by omega)) (by omega) ((((HA.out.req.below (HBW.out.mono HBB.out)).apart0 hst8 (fun hn x hx => HSEP.out.1 hn x hx))).more (Nat.le_trans HBB.out (Nat.le_trans HBW.out.size hst8.size))) ((HA.out.aft.below (HBW.out.mono HBB.out)).apart0 hst8 (fun hn x hx => HSEP.out.2 hn x hx)) (by have := HBB.out; omega) HLENS.out.2; have R9 := Lib.hid S.r9; have v0 := S.v0; have v1 := S.v1; have f1 := S.f1; have l8 := S.l8; have l10 := S.l10; have v3 := S.v3; have R12 := Lib.hid S.r12; have v4 := S.v4; have f4 := S.f4; simp only at v0 v1 v3 v4; obtain ⟨w13, hw13⟩ : ∃ w13, w13 = w12.setCell ⟨w.heap.size + 1, 3, none⟩ (.slice (some ⟨g12, 0, none⟩) n2' c12) := ⟨_, rfl⟩; have hm13 := S.mid; simp only at hm13; rw [← hw13] at hm13; have HM13 := Lib.hid hm13; have HW13 := Lib.hid hw13; clear hv8 hst8 S hm13 hw13)
                  | (at_builtin; refine wpList_append_run rfl _ _ _ rfl rfl rfl R9.out ?_; clear R9)
                  | (at_builtin; refine wpList_append_run rfl _ _ _ rfl rfl rfl R12.out ?_; clear R12))
                rw [← HW13.out]
                have HSLC := Lib.hid HM13.out.ref.obs.at_.units.slc
                obtain ⟨oA, on_, oc, oes, oA2, on2, oc2, ous, A3, n3, c3, us⟩ := o
                obtain ⟨xc, hxc⟩ : ∃ xc : Array Value, xc = svArr ⟨name, st, rq, some ⟨g9, 0, none⟩, k, c9, af, some ⟨g12, 0, none⟩, n2', c12⟩ := ⟨_, rfl⟩
                have hx4 : xc.size = 4 := by rw [hxc]; rfl
                have hx1 : ∀ u ∈ xc.toList, u.oneCell' = true := by rw [hxc]; exact fun u hu => svCells_one [⟨name, st, rq, some ⟨g9, 0, none⟩, k, c9, af, some ⟨g12, 0, none⟩, n2', c12⟩] u (by simpa [svArr, svCells] using hu)
                obtain ⟨a1, ac1, aw1, a2, ac2, aw2, SA⟩ := put2_a rowT_unit (w := w13) HSLC.out (Nat.le_refl _) (units_one us) HN3.out hx4 hx1
                obtain ⟨b1', bc1, bw1, b2, bc2, bw2, SB⟩ := put2_b rowT_unit (w := w13) HSLC.out (Nat.le_refl _) (units_one us) HN3.out hx4 hx1
                obtain ⟨d1, dc1, dw1, d2, dc2, dw2, SC⟩ := put2_c rowT_unit (w := w13) HSLC.out (Nat.le_refl _) (units_one us) HN3.out hx4 hx1
                subst hxc
                have HPA := Lib.hid (HM13.out.put hout hrw SA.bel SA.own)
                have HPB := Lib.hid (HM13.out.put hout hrw SB.bel SB.own)
                have HPC := Lib.hid (HM13.out.put hout hrw SC.bel SC.own)
                have HA1 := Lib.hid SA.r1
                have HA2 := Lib.hid SA.r2
                have HB1' := Lib.hid SB.r1
                have HB2' := Lib.hid SB.r2
                have HC1 := Lib.hid SC.r1
                have HC2 := Lib.hid SC.r2
                have HSA := Lib.hid SA
                have HSB := Lib.hid SB
                have HSC := Lib.hid SC
                have na3 := (HM13.out.below hout hrw SA.bel).ref.facts.2.2.2.2 2
                have nb3 := (HM13.out.below hout hrw SB.bel).ref.facts.2.2.2.2 2
                have nc3 := (HM13.out.below hout hrw SC.bel).ref.facts.2.2.2.2 2
                unfold svArr at HA1 HA2 HB1' HB2' HC1 HC2
                clear SA SB SC hx1 hx4 z0 z1 z2 z3 y1 v0 v1 v3 v4 f1 f4 m2
                refine wp_region_K (fun W' => W'.cell? ⟨r, 2, none⟩ = some (.slice A3 n3 c3) ∧ W'.cell? ⟨w.heap.size + 1, 0, none⟩ = some (.string ⟨name.toArray⟩) ∧ W'.cell? ⟨w.heap.size + 1, 1, none⟩ = some (.string ⟨st.toArray⟩) ∧ W'.cell? ⟨w.heap.size + 1, 2, none⟩ = some (.slice (some ⟨g9, 0, none⟩) k c9) ∧ W'.cell? ⟨w.heap.size + 1, 3, none⟩ = some (.slice (some ⟨g12, 0, none⟩) n2' c12)) 14 (by kernel_rfl) HM13.out.held (fun hS9 => ?_)
                try simp only [Act.put, List.setIfInBounds_toArray, List.set_cons_zero, List.set_cons_succ]
                refine wpAnyK_take (i := 0) (v := ?_) [11, 12, 13, 14] rfl (by kernel_rfl) (fun _ _ _ h => h) (Or.inl ⟨by rfl, ?_⟩) (by assumption) ?_
                rotate_left
                focus (intro w9 hSw; (try dsimp only at hSw); go_simp; (try with_reducible rfl))
                try simp only [Act.put, List.setIfInBounds_toArray, List.set_cons_zero, List.set_cons_succ]
                refine wpAnyK_take (i := 2) (v := ?_) [3, 4, 5, 6, 7, 10, 14] rfl (by kernel_rfl) (fun _ _ _ h => h) (Or.inl ⟨by rfl, ?_⟩) (by assumption) ?_
                rotate_left
                focus (intro w9 hSw; (try dsimp only at hSw); go_simp; (try with_reducible rfl))
                try simp only [Act.put, List.setIfInBounds_toArray, List.set_cons_zero, List.set_cons_succ]
                refine wpAnyK_take (i := 3) (v := ?_) [4, 5, 6, 7, 10, 14] rfl (by kernel_rfl) (fun _ _ _ h => h) (Or.inl ⟨by rfl, ?_⟩) (by assumption) ?_
                rotate_left
                focus (intro w9 hSw; (try dsimp only at hSw); go_simp; (try with_reducible rfl))
                try simp only [Act.put, List.setIfInBounds_toArray, List.set_cons_zero, List.set_cons_succ]
                refine wpAnyK_take (i := 4) (v := ?_) [5, 6, 7, 10, 14] rfl (by kernel_rfl) (fun _ _ _ h => h) (Or.inl ⟨by rfl, ?_⟩) (by assumption) ?_
                rotate_left
                focus (intro w9 hSw; (try dsimp only at hSw); go_simp; (try with_reducible rfl))
                try simp only [Act.put, List.setIfInBounds_toArray, List.set_cons_zero, List.set_cons_succ]
                refine wpAnyK_take (i := 5) (v := ?_) [6, 7, 10, 14] rfl (by kernel_rfl) (fun _ _ _ h => h) (Or.inl ⟨by rfl, ?_⟩) (by assumption) ?_
                rotate_left
                focus (intro w9 hSw; (try dsimp only at hSw); go_simp; (try with_reducible rfl))
                try simp only [Act.put, List.setIfInBounds_toArray, List.set_cons_zero, List.set_cons_succ]
                refine wpAnyK_take (i := 6) (v := ?_) [7, 10, 14] rfl (by kernel_rfl) (fun _ _ _ h => h) (Or.inl ⟨by rfl, ?_⟩) (by assumption) ?_
                rotate_left
                focus (intro w9 hSw; (try dsimp only at hSw); go_simp; (try with_reducible rfl))
                try simp only [Act.put, List.setIfInBounds_toArray, List.set_cons_zero, List.set_cons_succ]
                refine wpAnyK_take (i := 8) (v := ?_) [9, 10, 14] rfl (by kernel_rfl) (fun _ _ _ h => h) (Or.inl ⟨by rfl, ?_⟩) (by assumption) ?_
                rotate_left
                focus (intro w9 hSw; (try dsimp only at hSw); go_simp; (try with_reducible rfl))
                try simp only [Act.put, List.setIfInBounds_toArray, List.set_cons_zero, List.set_cons_succ]
                refine wpAnyK_two (i := 1) (i' := 9) (by kernel_rfl) rfl rfl (fun K9 hK9 => ?_) (fun K9 hK9 => ?_)
                · go_simp
                  refine hK9.out _ _ (fun _ => (HM13.out.below hout hrw (bel_new w13 _)).held) (fun hS9 => ?_)
                  replace hS9 := hS9 (by decide)
                  try dsimp only at hS9
                  try simp only [Act.put, List.setIfInBounds_toArray, List.set_cons_zero, List.set_cons_succ]
                  refine wpAnyK_two (i := 7) (i' := 9) (by kernel_rfl) rfl rfl (fun K9 hK9 => ?_) (fun K9 hK9 => ?_)
                  · refine step_append_at (by rfl) _ _ _ (by rfl) HC1.out (by with_reducible rfl) (by rfl) (by rfl) (by rfl) ?_
                    refine hK9.out _ _ (fun _ => (HM13.out.below hout hrw (HSC.out.bel1)).held) (fun hS9 => ?_)
                    replace hS9 := hS9 (by decide)
                    try dsimp only at hS9
                    try simp only [Act.put, List.setIfInBounds_toArray, List.set_cons_zero, List.set_cons_succ]
                    refine wpAnyK_one (i := 9) (by kernel_rfl) rfl (fun K9 hK9 => ?_)
                    go_simp
                    refine hK9.out _ _ (fun _ => (HM13.out.below hout hrw (HSC.out.bel1.alloc HSC.out.bel1.size _)).held) (fun hS9 => ?_)
                    replace hS9 := hS9 (by decide)
                    try dsimp only at hS9
                    try simp only [Act.put, List.setIfInBounds_toArray, List.set_cons_zero, List.set_cons_succ]
                    refine wpAnyK_one (i := 10) (by kernel_rfl) rfl (fun K9 hK9 => ?_)
                    refine step_append_at (by rfl) _ _ _ (by rfl) HC2.out (by with_reducible rfl) (by rfl) (by rfl) (by rfl) ?_
                    refine hK9.out _ _ (fun _ => (HM13.out.below hout hrw (HSC.out.bel)).held) (fun hS9 => ?_)
                    replace hS9 := hS9 (by decide)
                    try dsimp only at hS9
                    try simp only [Act.put, List.setIfInBounds_toArray, List.set_cons_zero, List.set_cons_succ]
                    refine wpAnyK_take (i := 11) (v := ?_) [12, 13, 14] rfl (by kernel_rfl) (fun _ _ _ h => h) (Or.inl ⟨by rfl, ?_⟩) (by assumption) ?_
                    rotate_left
                    focus (intro w9 hSw; (try dsimp only at hSw); go_simp; (try with_reducible rfl))
                    try simp only [Act.put, List.setIfInBounds_toArray, List.set_cons_zero, List.set_cons_succ]
                    refine wpAnyK_take (i := 12) (v := ?_) [13, 14] rfl (by kernel_rfl) (fun _ _ _ h => h) (Or.inl ⟨by rfl, ?_⟩) (by assumption) ?_
                    rotate_left
                    focus (intro w9 hSw; (try dsimp only at hSw); go_simp; (try with_reducible rfl))
                    try simp only [Act.put, List.setIfInBounds_toArray, List.set_cons_zero, List.set_cons_succ]
                    refine wpAnyK_take (i := 13) (v := ?_) [14] rfl (by kernel_rfl) (fun _ _ _ h => h) (Or.inl ⟨by rfl, ?_⟩) (by assumption) ?_
                    rotate_left
                    focus (intro w9 hSw; (try dsimp only at hSw); go_simp; (try with_reducible rfl))
                    try simp only [Act.put, List.setIfInBounds_toArray, List.set_cons_zero, List.set_cons_succ]
                    refine wpAnyK_one (i := 14) (by kernel_rfl) rfl (fun K9 hK9 => ?_)
                    go_simp
                    refine hK9.out _ _ (fun h9 => absurd rfl h9) (fun hS9 => ?_)
                    try simp only [Act.put, List.setIfInBounds_toArray, List.set_cons_zero, List.set_cons_succ]
                    refine wpAnyK_done (by kernel_rfl) ?_ _
                    go_wp2
                    go_ret
                    rw [HX.out]
                    exact HPC.out
                  · go_simp
                    refine hK9.out _ _ (fun _ => (HM13.out.below hout hrw ((bel_new w13 _).alloc (by simp) _)).held) (fun hS9 => ?_)
                    replace hS9 := hS9 (by decide)
                    try dsimp only at hS9
                    try simp only [Act.put, List.setIfInBounds_toArray, List.set_cons_zero, List.set_cons_succ]
                    refine wpAnyK_one (i := 7) (by kernel_rfl) rfl (fun K9 hK9 => ?_)
                    refine step_append_at (by rfl) _ _ _ (by rfl) HB1'.out (by with_reducible rfl) (by rfl) (by rfl) (by rfl) ?_
                    refine hK9.out _ _ (fun _ => (HM13.out.below hout hrw (HSB.out.bel1)).held) (fun hS9 => ?_)
                    replace hS9 := hS9 (by decide)
                    try dsimp only at hS9
                    try simp only [Act.put, List.setIfInBounds_toArray, List.set_cons_zero, List.set_cons_succ]
                    refine wpAnyK_one (i := 10) (by kernel_rfl) rfl (fun K9 hK9 => ?_)
                    refine step_append_at (by rfl) _ _ _ (by rfl) HB2'.out (by with_reducible rfl) (by rfl) (by rfl) (by rfl) ?_
                    refine hK9.out _ _ (fun _ => (HM13.out.below hout hrw (HSB.out.bel)).held) (fun hS9 => ?_)
                    replace hS9 := hS9 (by decide)
                    try dsimp only at hS9
                    try simp only [Act.put, List.setIfInBounds_toArray, List.set_cons_zero, List.set_cons_succ]
                    refine wpAnyK_take (i := 11) (v := ?_) [12, 13, 14] rfl (by kernel_rfl) (fun _ _ _ h => h) (Or.inl ⟨by rfl, ?_⟩) (by assumption) ?_
                    rotate_left
                    focus (intro w9 hSw; (try dsimp only at hSw); go_simp; (try with_reducible rfl))
                    try simp only [Act.put, List.setIfInBounds_toArray, List.set_cons_zero, List.set_cons_succ]
                    refine wpAnyK_take (i := 12) (v := ?_) [13, 14] rfl (by kernel_rfl) (fun _ _ _ h => h) (Or.inl ⟨by rfl, ?_⟩) (by assumption) ?_
                    rotate_left
                    focus (intro w9 hSw; (try dsimp only at hSw); go_simp; (try with_reducible rfl))
                    try simp only [Act.put, List.setIfInBounds_toArray, List.set_cons_zero, List.set_cons_succ]
                    refine wpAnyK_take (i := 13) (v := ?_) [14] rfl (by kernel_rfl) (fun _ _ _ h => h) (Or.inl ⟨by rfl, ?_⟩) (by assumption) ?_
                    rotate_left
                    focus (intro w9 hSw; (try dsimp only at hSw); go_simp; (try with_reducible rfl))
                    try simp only [Act.put, List.setIfInBounds_toArray, List.set_cons_zero, List.set_cons_succ]
                    refine wpAnyK_one (i := 14) (by kernel_rfl) rfl (fun K9 hK9 => ?_)
                    go_simp
                    refine hK9.out _ _ (fun h9 => absurd rfl h9) (fun hS9 => ?_)
                    try simp only [Act.put, List.setIfInBounds_toArray, List.set_cons_zero, List.set_cons_succ]
                    refine wpAnyK_done (by kernel_rfl) ?_ _
                    go_wp2
                    go_ret
                    rw [HX.out]
                    exact HPB.out
                · go_simp
                  refine hK9.out _ _ (fun _ => (HM13.out.below hout hrw (bel_new w13 _)).held) (fun hS9 => ?_)
                  replace hS9 := hS9 (by decide)
                  try dsimp only at hS9
                  try simp only [Act.put, List.setIfInBounds_toArray, List.set_cons_zero, List.set_cons_succ]
                  refine wpAnyK_one (i := 1) (by kernel_rfl) rfl (fun K9 hK9 => ?_)
                  go_simp
                  refine hK9.out _ _ (fun _ => (HM13.out.below hout hrw ((bel_new w13 _).alloc (by simp) _)).held) (fun hS9 => ?_)
                  replace hS9 := hS9 (by decide)
                  try dsimp only at hS9
                  try simp only [Act.put, List.setIfInBounds_toArray, List.set_cons_zero, List.set_cons_succ]
                  refine wpAnyK_one (i := 7) (by kernel_rfl) rfl (fun K9 hK9 => ?_)
                  refine step_append_at (by rfl) _ _ _ (by rfl) HA1.out (by with_reducible rfl) (by rfl) (by rfl) (by rfl) ?_
                  refine hK9.out _ _ (fun _ => (HM13.out.below hout hrw (HSA.out.bel1)).held) (fun hS9 => ?_)
                  replace hS9 := hS9 (by decide)
                  try dsimp only at hS9
                  try simp only [Act.put, List.setIfInBounds_toArray, List.set_cons_zero, List.set_cons_succ]
                  refine wpAnyK_one (i := 10) (by kernel_rfl) rfl (fun K9 hK9 => ?_)
                  refine step_append_at (by rfl) _ _ _ (by rfl) HA2.out (by with_reducible rfl) (by rfl) (by rfl) (by rfl) ?_
                  refine hK9.out _ _ (fun _ => (HM13.out.below hout hrw (HSA.out.bel)).held) (fun hS9 => ?_)
                  replace hS9 := hS9 (by decide)
                  try dsimp only at hS9
                  try simp only [Act.put, List.setIfInBounds_toArray, List.set_cons_zero, List.set_cons_succ]
                  refine wpAnyK_take (i := 11) (v := ?_) [12, 13, 14] rfl (by kernel_rfl) (fun _ _ _ h => h) (Or.inl ⟨by rfl, ?_⟩) (by assumption) ?_
                  rotate_left
                  focus (intro w9 hSw; (try dsimp only at hSw); go_simp; (try with_reducible rfl))
                  try simp only [Act.put, List.setIfInBounds_toArray, List.set_cons_zero, List.set_cons_succ]
                  refine wpAnyK_take (i := 12) (v := ?_) [13, 14] rfl (by kernel_rfl) (fun _ _ _ h => h) (Or.inl ⟨by rfl, ?_⟩) (by assumption) ?_
                  rotate_left
                  focus (intro w9 hSw; (try dsimp only at hSw); go_simp; (try with_reducible rfl))
                  try simp only [Act.put, List.setIfInBounds_toArray, List.set_cons_zero, List.set_cons_succ]
                  refine wpAnyK_take (i := 13) (v := ?_) [14] rfl (by kernel_rfl) (fun _ _ _ h => h) (Or.inl ⟨by rfl, ?_⟩) (by assumption) ?_
                  rotate_left
                  focus (intro w9 hSw; (try dsimp only at hSw); go_simp; (try with_reducible rfl))
                  try simp only [Act.put, List.setIfInBounds_toArray, List.set_cons_zero, List.set_cons_succ]
                  refine wpAnyK_one (i := 14) (by kernel_rfl) rfl (fun K9 hK9 => ?_)
                  go_simp
                  refine hK9.out _ _ (fun h9 => absurd rfl h9) (fun hS9 => ?_)
                  try simp only [Act.put, List.setIfInBounds_toArray, List.set_cons_zero, List.set_cons_succ]
                  refine wpAnyK_done (by kernel_rfl) ?_ _
                  go_wp2
                  go_ret
                  rw [HX.out]
                  exact HPA.out
      | true =>
        obtain ⟨hi, _⟩ := idxU_at hh
        obtain ⟨i, hix⟩ : ∃ i, i = idxU s.units name := ⟨_, rfl⟩
        have hat0 : atU s.units name = (i : Int) := by unfold atU; rw [if_pos hh, hix]
        have HAT := Lib.hid hat0
        rw [← hix] at hi
        have hin : i < o.n3 := by have := HL.out.2.2.2.1; omega
        have hi62 : i ≤ 1000000 := by have := HN3.out; omega
        have hpos : (0 : Int) ≤ (i : Int) := by omega
        have HIX := Lib.hid hix
        have HHH := Lib.hid hh
        clear hh hat0 hix hi
        go_enter Tryz.func55, Tryz.ntmps55
        go_wp2_with (first
          | (go_at_call 46; refine hmay.mono ?_; clear hmay; rintro e w3 ⟨rfl, hb3⟩; rw [← HWW.out] at hb3; obtain ⟨z0, z1, z2, z3, y1⟩ := HV.out hb3; have hat := hal.out (HB2.out.trans (hb3.mono HB2.out.size)) name; rw [HAT.out] at hat; have HB3 := Lib.hid hb3; clear hb3)
          | (go_at_call 93; refine hat.mono ?_; clear hat; rintro e w4 ⟨rfl, rfl⟩))
        have hbw3 : Below w.heap.size w w4 := HB2.out.trans (HB3.out.mono HB2.out.size)
        have HR3 := Lib.hid (H.out.below hbw3)
        have m2 := HR3.out.facts.2.2.1
        obtain ⟨b, off, hA, hbB, hl, c0, c1, c2, c3, q1, q2⟩ := HR3.out.obs.at_.units.at_ hin
        have HGET := Lib.hid (show s.units[i]? = some o.us[i].srv by rw [← HSRV.out, List.getElem?_map, List.getElem?_eq_getElem hl]; rfl)
        have hsame := sameUnit_any (w := w4.drew) o.us[i] ⟨name, st, rq, A', n', c', af, A2', n2', c2'⟩ q1.drew q2.drew ((HA.out.req.below (hbw3.mono HBB.out)).more (Nat.le_trans HBB.out hbw3.size)).drew ((HA.out.aft.below (hbw3.mono HBB.out)).more (Nat.le_trans HBB.out hbw3.size)).drew (Nat.le_refl _)
        rw [hA] at m2
        generalize o.us[i] = ui at *
        generalize o.n3 = n3 at *
        generalize o.c3 = cc3 at *
        unfold svArr at hsame
        change Calls _ _ _ _ (fun e w' => e = .returned (.bool (decide (ui.srv = ⟨name, st, rq, af⟩))) ∧ Below w4.drew.heap.size w4.drew w') at hsame
        obtain ⟨an, asx, ar, aA, an1, ac1, aa, aA2, an2, ac2⟩ := ui
        simp only at c0 c1 c2 c3 hsame
        have HBW3 := Lib.hid hbw3
        clear q1 q2 hbB hbw3 y1
        refine region_tail 9 (by kernel_rfl) (by kernel_rfl) ?_
        simp only [List.take_succ_cons, List.take_zero, List.drop_succ_cons, List.drop_zero]
        repeat still_step
        refine wpStill_nil ?_
        have HG := Lib.hid (show s.units[idxU s.units name]? = some ⟨an, asx, ar, aa⟩ from HIX.out ▸ HGET.out)
        cases hsm : decide ((⟨an, asx, ar, aa⟩ : Srv) = ⟨name, st, rq, af⟩) with
        | false =>
          have HX := Lib.hid (show doStart s name ⟨name, st, rq, af⟩ = (s, 70) by
            unfold doStart
            rw [if_pos ⟨HM.out, rfl⟩, if_pos ⟨HHH.out, by rw [HG.out]; intro h9; exact of_decide_eq_false hsm (Option.some.inj h9)⟩])
          have hsame' : Calls Tryz.prog 79 _ _ (fun e w' => e = .returned (.bool false) ∧ Below w4.drew.heap.size w4.drew w') := hsm ▸ hsame
          clear hsame hsm
          go_wp2_with (go_at_call 79; refine hsame'.mono ?_; clear hsame'; rintro e w5 ⟨rfl, hb5⟩; have HB5 := Lib.hid (HBW3.out.trans ((show Below w4.heap.size w4 w5 from ((Below.refl _ w4).drew).trans hb5).mono HBW3.out.size)); clear hb5)
          go_ret
          rw [HX.out]
          exact fin.out 70 _ HB5.out
        | true =>
          have HD := Lib.hid (show doStart s name ⟨name, st, rq, af⟩ = if rq.all (hasU s.units) = false then (s, 70) else (s, 0) by
            unfold doStart
            rw [if_pos ⟨HM.out, rfl⟩, if_neg (by rw [HG.out, of_decide_eq_true hsm]; intro h9; exact h9.2 rfl), HHH.out]
            simp only [if_true])
          have hsame' : Calls Tryz.prog 79 _ _ (fun e w' => e = .returned (.bool true) ∧ Below w4.drew.heap.size w4.drew w') := hsm ▸ hsame
          clear hsame hsm
          go_wp2_with (go_at_call 79; refine hsame'.mono ?_; clear hsame'; rintro e w5 ⟨rfl, hb5⟩; have hb5' : Below w4.heap.size w4 w5 := ((Below.refl _ w4).drew).trans hb5; have HB5 := Lib.hid (HB3.out.trans (hb5'.mono HB3.out.size)); clear hb5 hb5')
          have hn9 : n' ≤ 1000000000 := HLENS.out.2.1
          clear z0 z1 z2 z3 m2 c0 c1 c2 c3
          go_loopw [9] (fun i wr => ∃ k : Nat, k ≤ n' ∧ i = .int .i64 (k : Int) ∧ Aside ((rq.take k).all (hasU s.units) = true) ∧ Aside (Below W2.heap.size W2 wr)) (fun i _ => n' - (intOf i).toNat)
          case atStart => exact ⟨0, Nat.zero_le _, rfl, rfl, HB5.out⟩
          case round =>
            obtain ⟨k, hk, rfl, hall, hb⟩ := hrel
            obtain ⟨z0, z1, z2, z3, y1⟩ := HV.out hb.out
            have hbw : Below w.heap.size w wr := HB2.out.trans (hb.out.mono HB2.out.size)
            by_cases hlt : k < n'
            · obtain ⟨b2, off2, hA2, hbB2, hkL, c9⟩ := txtAt (HA.out.req.below (hbw.mono HBB.out)) hlt
              simp only at hA2 hkL c9
              have hat := hal.out hbw rq[k]
              have HTK := Lib.hid (show (rq.take (k + 1)).all (hasU s.units) = hasU s.units rq[k] by rw [List.take_succ_eq_append_getElem hkL, List.all_append, hall.out]; simp)
              have HAL := Lib.hid (show hasU s.units rq[k] = false → rq.all (hasU s.units) = false from fun h9 => by rw [List.all_eq_false]; exact ⟨_, List.getElem_mem hkL, by rw [h9]; decide⟩)
              subst hA2
              generalize rq[k] = t at *
              cases hb9 : hasU s.units t with
              | false =>
                rw [show atU s.units t = -1 by unfold atU; rw [if_neg (by rw [hb9]; decide)]] at hat
                have HX := Lib.hid (show doStart s name ⟨name, st, rq, af⟩ = (s, 70) by rw [HD.out, if_pos (HAL.out hb9)])
                clear hb9
                go_wp2_with (go_at_call 93; refine hat.mono ?_; clear hat; rintro e9 w9 ⟨rfl, rfl⟩)
                go_ret
                rw [HX.out]
                exact fin.out 70 _ hbw
              | true =>
                have hz : ¬ ((idxU s.units t : Int) < 0) := by omega
                rw [show atU s.units t = (idxU s.units t : Int) by unfold atU; rw [if_pos hb9]] at hat
                have HT := Lib.hid (HTK.out.trans hb9)
                clear hb9
                generalize idxU s.units t = q at *
                go_wp2_with (go_at_call 93; refine hat.mono ?_; clear hat; rintro e9 w9 ⟨rfl, rfl⟩)
                exact ⟨⟨k + 1, hlt, by go_num, HT.out, hb.out⟩, by clear HT; simp [intOf]; omega⟩
            · obtain rfl : k = n' := by omega
              have hal2 : rq.all (hasU s.units) = true := by
                have h9 := hall.out
                rwa [List.take_of_length_le (Nat.le_of_eq HU1.out)] at h9
              have HX := Lib.hid (show doStart s name ⟨name, st, rq, af⟩ = (s, 0) by rw [HD.out, if_neg (by rw [hal2]; decide)])
              clear hal2
              go_wp2_with (fail)
              go_ret
              rw [HX.out]
              exact fin.out 0 _ hbw
end
end Go.Proofs.YtibndaianhlcaaaGreatDoor
