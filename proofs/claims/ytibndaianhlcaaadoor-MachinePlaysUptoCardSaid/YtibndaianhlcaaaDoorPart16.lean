/- machine.Observe: the walk. Layer 20: what the law's runs keep. Layer 20: the document's examples. Layer 20: what was observed, kept; steps that came in. -/
import Derived.Test.YtibndaianhlcaaaDoorPart10
import Derived.Test.YtibndaianhlcaaaDoorPart4
import Derived.Test.YtibndaianhlcaaaDoorPart15
namespace Go.Proofs.YtibndaianhlcaaaDoor
open Go.RowKit Go.Sort Go.Shelf
set_option linter.unusedVariables false
set_option linter.unusedSimpArgs false

/-- Lengths that no step of a program reaches. -/
structure SmallV (s : Mach) (es : List EV) (us : List SV) : Prop where
  nf : s.files.length ≤ 1000000
  nu : s.users.length ≤ 1000000
  nn : s.units.length ≤ 1000000
  data : ∀ e ∈ es, e.data.length ≤ 1000000000
  lists : ∀ u ∈ us, u.req.length ≤ 1000000000 ∧ u.aft.length ≤ 1000000000
theorem obs_users {W : World} {B : Nat} {A : Option Addr} {n c : Nat} {l : List Txt} (h : Slc W B 1 A n c (l.map encStr)) (hn : n ≤ 1000000000) (base : Nat) (hb : base ≤ W.heap.size) :
    ∃ A' c' w', (Builtin.append_ #[29, 29] 29 #[.slice none 0 0, .slice A n c]).run Tryd.prog W.drew = .ok (.slice A' n c') w' ∧ Row w' (fun k => base ≤ k) 9 1 (.slice A' n c') n (l.map encStr) ∧ Below W.heap.size W w' := by
  obtain ⟨i, hi, hz0, hz1, hz2⟩ := info_parts str_info
  obtain ⟨A', c', w', r1, r2, r3, _⟩ := append_slc (P := Tryd.prog) W.drew W.heap.size 29 29 _ i _ 1 16 Tryd.underlying29 hi hz0 hz1 hz2 rfl (by decide) (.slice none 0 0) 0 [] (World.ownsRow_nil _ _ _ _) B A n c _ h.drew (strs_one l) (by unfold maxLen; omega) (by omega) (by simp)
  rw [Nat.zero_add] at r1 r2
  rw [List.nil_append] at r2
  refine ⟨A', c', w', r1, ⟨⟨r2.1, r2.2.imp id fun ⟨g, cap, cur, e, _, r⟩ => ⟨g, cap, cur, e, Nat.zero_le _, r⟩⟩, fun k hk => by have := (r2.lt k hk).1; show base ≤ k; omega⟩, ((Below.refl _ W).drew).grown r3 (Nat.le_refl _) (fun q hq => by cases hq)⟩
def obsPost (w : World) (s : Mach) : Ending → World → Prop := fun e w' => ∃ A n c es A2 n2 c2 A3 n3 c3 us, e = .returned (.agg #[.slice A n c, .slice A2 n2 c2, .slice A3 n3 c3]) ∧ ObsOut w w' s A n c es A2 n2 c2 A3 n3 c3 us
set_option maxRecDepth 100000 in
set_option maxHeartbeats 4000000 in
theorem observe_any {w : World} {F : Nat → Prop} {g : Nat} {s : Mach} {fA : Option Addr} {fn fc : Nat} {es : List EV} {uA : Option Addr} {un uc : Nat} {nA : Option Addr} {nn nc : Nat} {us : List SV} {pA : Option Addr} {pn pc : Nat} (h : MachV w F g s fA fn fc es uA un uc nA nn nc us pA pn pc) (hs : SmallV s es us) :
    Calls Tryd.prog 9 #[.pointer (some ⟨g, 0, none⟩)] w (obsPost w s) := by
  have hfn : fn ≤ 1000000 := by have := h.flen.2; have := hs.nf; omega
  have hun : un ≤ 1000000 := by have := h.ulen; have := hs.nu; omega
  have hnn : nn ≤ 1000000 := by have := h.nlen.2; have := hs.nn; omega
  have hgl : g < w.heap.size := h.blk.lt
  have H := Lib.hid h
  have HSM := Lib.hid hs
  have HFL := Lib.hid h.flen
  have HNL := Lib.hid h.nlen
  obtain ⟨W0, hW0⟩ : ∃ W0, W0 = (w.alloc (.cells #[.slice none 0 0, .slice none 0 0, .slice none 0 0] 38)).alloc (.cells #[.slice none 0 0, .slice none 0 0, .slice none 0 0] 38) := ⟨_, rfl⟩
  have hO0 := ObsW.new w
  rw [← hW0] at hO0
  have HO0 := Lib.hid hO0
  have HW0 := Lib.hid hW0
  obtain ⟨m0, m1, m2, _, _⟩ := (h.below hO0.bel).facts
  rw [hW0] at m0
  clear m1 m2 h hs hO0 hW0
  go_enter Tryd.func9, Tryd.ntmps9
  go_wp2_with (fail)
  rw [← HW0.out]
  go_loopw [14] (fun i wr => ∃ (k : Nat) (A' : Option Addr) (c' : Nat) (es' : List EV) (W : World), k ≤ fn ∧ i = .int .i64 (k : Int) ∧ Aside (ObsW w W (.slice A' k c') (.slice none 0 0) (.slice none 0 0)) ∧ Aside (OwnEnts wr (w.heap.size + 2) (.slice A' k c') k es') ∧ Aside (es'.map EV.ent = (es.take k).map EV.ent) ∧ Aside (Below (w.heap.size + 2) W wr)) (fun i _ => fn - (intOf i).toNat)
  case atStart => exact ⟨0, none, 0, [], W0, Nat.zero_le _, rfl, HO0.out, OwnEnts.nil _ _, rfl, Below.refl _ _⟩
  case round =>
    obtain ⟨k, A', c', es', W, hk, rfl, hO, ho, hmap, hb⟩ := hrel
    have hsz := hO.out.size
    have hbW : Below W.heap.size W wr := by rw [hsz]; exact hb.out
    have hbw := hO.out.bel2 hbW
    have hwr : w.heap.size + 2 ≤ wr.heap.size := by have := hbW.size; omega
    by_cases hlt : k < fn
    · obtain ⟨b, off, rfl, hbB, hl, c0, c1, c2, hS⟩ := (H.out.entsAt.below hbw).at_ hlt
      have hdl := HSM.out.data _ (List.getElem_mem hl)
      have HM := Lib.hid (show (es.take (k + 1)).map EV.ent = (es.take k).map EV.ent ++ [es[k].ent] by rw [List.take_succ_eq_append_getElem hl, List.map_append]; rfl)
      generalize es[k] = e at *
      have hen : e.n ≤ 1000000000 := by have := hS.len; rw [List.length_map] at this; omega
      have hoW := ho.out
      rw [← hsz] at hoW
      obtain ⟨W2, w3, g3, c3, A6, c6, w6, S, hb6⟩ := copy_step hoW hbW e hS hbw.size (by omega) hen
      have HR3 := Lib.hid S.r3
      have HR6 := Lib.hid S.r6
      have HO6 := Lib.hid S.own
      have HB6 := Lib.hid hb6
      have hb3 : Below W.heap.size W w3 := hbW.trans (S.bel3.mono hbW.size)
      obtain ⟨v0, _, _, vf, _⟩ := hO.out.facts hb3
      obtain ⟨_, _, _, _, hw6⟩ := hO.out.facts hb6
      have vf0 := vf 0
      have v6 := (hO.out.facts hb6).1
      have x0 := S.blk.cell 0
      have x1 := S.blk.cell 1
      have x2 := S.blk.cell 2
      have f2 := S.blk.frozen 2
      simp only [List.getElem?_toArray, List.getElem?_cons_zero, List.getElem?_cons_succ] at x0 x1 x2
      have hB2 := S.blk.set_ 2 (.slice (some ⟨g3, 0, none⟩) e.n c3)
      have y0 := hB2.cell 0
      have y1 := hB2.cell 1
      have y2 := hB2.cell 2
      simp only [List.setIfInBounds_toArray, List.set_cons_zero, List.set_cons_succ, List.getElem?_toArray, List.getElem?_cons_zero, List.getElem?_cons_succ] at y0 y1 y2
      have w30 : wr.heap.size < w3.heap.size := S.blk.lt
      have vf6 := (hO.out.facts hb6).2.2.2.1 0
      have hne : ¬ w.heap.size + 1 = wr.heap.size := by omega
      have HSZ := Lib.hid hsz
      clear S hS hb6 hB2 hdl hbW hbw hb3 vf hoW hsz
      go_wp2_with (first
        | (at_builtin; refine wpList_append_run rfl _ _ _ rfl rfl rfl HR3.out ?_; clear HR3)
        | (at_builtin; refine wpList_append_run rfl _ _ _ rfl rfl rfl HR6.out ?_; clear HR6))
      have HMX := Lib.hid (show (es' ++ [(⟨e.path, e.kind, e.data, some ⟨g3, 0, none⟩, e.n, c3⟩ : EV)]).map EV.ent = (es.take (k + 1)).map EV.ent by rw [HM.out, ← hmap.out, List.map_append]; rfl)
      refine ⟨⟨k + 1, A6, c6, _, W.setCell ⟨w.heap.size + 1, 0, none⟩ (.slice A6 (k + 1) c6), by omega, by go_num, hO.out.set_ 0 _, ?_, HMX.out, ?_⟩, by simp [intOf]; omega⟩
      · have ho6 := HO6.out
        rw [HSZ.out] at ho6
        exact ho6.set_ (fun e1 => by have h9 : w.heap.size + 2 ≤ w.heap.size + 1 := (ho6.own.lt _ e1).1; omega) (fun x hx q hq => by obtain ⟨q', h1, h2, _⟩ := ho6.data x hx; rw [hq] at h1; injection h1 with h1; injection h1 with h1; simp only; omega) _
      · have := below_both HB6.out ⟨w.heap.size + 1, 0, none⟩ (.slice A6 (k + 1) c6)
        rwa [HSZ.out] at this
    · obtain rfl : k = fn := by omega
      have HMF := Lib.hid (show es'.map EV.ent = s.files by rw [hmap.out, List.take_of_length_le (by have := HFL.out.1; omega), H.out.ents])
      obtain ⟨m0, m1, m2, _, _⟩ := (H.out.below hbw).facts
      clear m0
      obtain ⟨v0, v1, v2, vf, _⟩ := hO.out.facts hbW
      have vf1 := vf 1
      obtain ⟨A8, c8, w8, r8, hR8, hb8⟩ := obs_users ((H.out.users.slc').below hbw) (by omega) w.heap.size hbw.size
      have HR8 := Lib.hid r8
      have hb8W : Below W.heap.size W w8 := hbW.trans (hb8.mono hbW.size)
      have hO8 := hO.out.set_ 1 (.slice A8 un c8)
      have HO8 : Hid (ObsW w (W.setCell ⟨w.heap.size + 1, 1, none⟩ (.slice A8 un c8)) (.slice A' k c') (.slice A8 un c8) (.slice none 0 0)) := hO8
      obtain ⟨W9, hW9⟩ : ∃ W9, W9 = w8.setCell ⟨w.heap.size + 1, 1, none⟩ (.slice A8 un c8) := ⟨_, rfl⟩
      have HW9 := Lib.hid hW9
      have hb9 : Below (w.heap.size + 2) (W.setCell ⟨w.heap.size + 1, 1, none⟩ (.slice A8 un c8)) W9 := by
        have := below_both hb8W ⟨w.heap.size + 1, 1, none⟩ (.slice A8 un c8)
        rw [hsz] at this
        rw [hW9]
        exact this
      have HB9 := Lib.hid hb9
      have HF9 : Hid (OwnEnts W9 (w.heap.size + 2) (.slice A' k c') k es') := by
        have ho6 := ho.out.below hb8
        rw [hW9]
        exact ho6.set_ (fun e1 => by have h9 : w.heap.size + 2 ≤ w.heap.size + 1 := (ho6.own.lt _ e1).1; omega) (fun x hx q hq => by obtain ⟨q', h1, h2, _⟩ := ho6.data x hx; rw [hq] at h1; injection h1 with h1; injection h1 with h1; simp only; omega) _
      have HU9 : Hid (Row W9 (fun k => w.heap.size ≤ k) 9 1 (.slice A8 un c8) un (s.users.map encStr)) := by
        rw [hW9]
        exact hR8.other (set_other (hO.out.var.below hb8W hO.out.var.lt) (by decide) 1 _)
      have hbw9 : Below w.heap.size w W9 := HO8.out.bel.trans (hb9.mono (by omega))
      have m29 := (H.out.below hbw9).facts.2.2.1
      have v8f := ((hO.out.facts hb8W).2.2.2.1 1)
      have v81 := ((hO.out.facts hb8W).2.1)
      rw [hW9] at m29
      have HMM := Lib.hid m29
      clear r8 hR8 hb8 hb8W hO8 hW9 hb9 hbw9 hO ho hmap hb hbW hbw hsz vf m2 v2
      go_wp2_with (fail)
      refine region_tail 7 (by kernel_rfl) (by kernel_rfl) ?_
      simp only [List.take_succ_cons, List.take_zero, List.drop_succ_cons, List.drop_zero]
      repeat still_step
      refine wpStill_nil ?_
      go_wp2_with (at_builtin; refine wpList_append_run rfl _ _ _ rfl rfl rfl HR8.out ?_; clear HR8)
      rw [← HW9.out]
      clear HW9 HMM m29 v0 v1 m1 hwr
      go_loopw [45] (fun i wr => ∃ (j : Nat) (A3 : Option Addr) (c3 : Nat) (us' : List SV) (W : World), j ≤ nn ∧ i = .int .i64 (j : Int) ∧ Aside (ObsW w W (.slice A' k c') (.slice A8 un c8) (.slice A3 j c3)) ∧ Aside (OwnEnts wr (w.heap.size + 2) (.slice A' k c') k es') ∧ Aside (Row wr (fun k => w.heap.size ≤ k) 9 1 (.slice A8 un c8) un (s.users.map encStr)) ∧
        Aside (OwnU wr (fun k => w.heap.size + 2 ≤ k) A3 j c3 us') ∧ Aside (us'.map SV.srv = (us.take j).map SV.srv) ∧ Aside (Below (w.heap.size + 2) W wr)) (fun i _ => nn - (intOf i).toNat)
      case atStart => exact ⟨0, none, 0, [], _, Nat.zero_le _, rfl, HO8.out, HF9.out, HU9.out, OwnU.nil _ _, rfl, HB9.out⟩
      case round =>
        obtain ⟨j, A3, c3, us', W', hj, rfl, hO', ho', hU', hV', hmap', hb'⟩ := hrel
        have hsz := hO'.out.size
        have hbW : Below W'.heap.size W' wr := by rw [hsz]; exact hb'.out
        have hbw := hO'.out.bel2 hbW
        have hwr : w.heap.size + 2 ≤ wr.heap.size := by have := hbW.size; omega
        by_cases hlt : j < nn
        · obtain ⟨b, off, rfl, hbB, hl, c0, c1, c2, c3', hS1, hS2⟩ := ((H.out.unitsAt).below hbw).at_ hlt
          have hdl := HSM.out.lists _ (List.getElem_mem hl)
          have HM := Lib.hid (show (us.take (j + 1)).map SV.srv = (us.take j).map SV.srv ++ [us[j].srv] by rw [List.take_succ_eq_append_getElem hl, List.map_append]; rfl)
          generalize us[j] = u at *
          have hen : u.n ≤ 1000000000 ∧ u.n2 ≤ 1000000000 := by have h1 := hS1.len; have h2 := hS2.len; rw [List.length_map] at h1 h2; omega
          obtain ⟨W1, hW1⟩ : ∃ W1, W1 = wr.alloc (.cells (svArr u) 46) := ⟨_, rfl⟩
          have hb1 : Below wr.heap.size wr W1 := by rw [hW1]; exact (Below.refl _ wr).alloc (Nat.le_refl _) _
          have hz1 : W1.heap.size = wr.heap.size + 1 := by rw [hW1]; simp
          have hG1 : Blk W1 wr.heap.size 46 (svArr u) := by rw [hW1]; exact Blk.new _ _ _
          have hun' := unit_any (w := W1.drew) u (hS1.below (hb1.mono hbw.size)).drew (hS2.below (hb1.mono hbw.size)).drew (by show w.heap.size ≤ W1.heap.size; have := hbw.size; omega) hen
          obtain ⟨v0, v1, v2, vf, _⟩ := hO'.out.facts hbW
          have x0 := hG1.cell 0
          have x1 := hG1.cell 1
          have x2 := hG1.cell 2
          have x3 := hG1.cell 3
          rw [hW1] at x0 x1 x2 x3 hun'
          unfold svArr at hun' x0 x1 x2 x3
          simp only [List.getElem?_toArray, List.getElem?_cons_zero, List.getElem?_cons_succ] at x0 x1 x2 x3
          have HW1 := Lib.hid hW1
          have HB1 := Lib.hid hb1
          have HG1 := Lib.hid hG1
          have HBW := Lib.hid hbW
          have HSZ := Lib.hid hsz
          clear hW1 hb1 hG1 hbW hbw hsz hS1 hS2 hdl v0 v1 vf
          have hne2 : ¬ w.heap.size + 1 = wr.heap.size := by omega
          have hlt2 : w.heap.size + 1 < wr.heap.size := by omega
          have HHJ : Hid (j ≤ 1000000000) := by have : j ≤ 1000000000 := by omega
                                                exact this
          go_wp2_with (fail)
          go_region_law (first
            | (go_simp; go_at_call 18; refine hun'.mono ?_; clear hun'; rintro e9 w9 ⟨u', rfl, hU9⟩; obtain ⟨A4, c4, w10, hst⟩ := obs_unit (u := u) hO'.out HBW.out ho'.out hU'.out hV'.out hU9 HHJ.out; have HST := Lib.hid hst; have HSR := Lib.hid hU9.srv; have v9 := (hO'.out.facts hst.bel9).2.2.1; have v9z : w.heap.size + 1 < w9.heap.size := (Nat.lt_of_lt_of_le (by omega) (hO'.out.facts hst.bel9).2.2.2.2); have r10' := hst.run; unfold svArr at r10'; have r10 := Lib.hid r10'; clear r10'; have v10 := (hO'.out.facts hst.bel).2.2.1; have f10 := (hO'.out.facts hst.bel).2.2.2.1 2; clear hst hU9)
            | (refine step_append_at (by rfl) _ _ _ (by rfl) r10.out (by with_reducible rfl) (by rfl) (by rfl) (by rfl) ?_))
          all_goals go_wp2_with (fail)
          all_goals have HMX := Lib.hid (show (us' ++ [u']).map SV.srv = (us.take (j + 1)).map SV.srv by rw [HM.out, ← hmap'.out, List.map_append, List.map_cons, List.map_nil, HSR.out])
          all_goals refine ⟨⟨j + 1, A4, c4, _, W'.setCell ⟨w.heap.size + 1, 2, none⟩ (.slice A4 (j + 1) c4), by omega, by go_num, hO'.out.set_ 2 _, ?_, ?_, ?_, HMX.out, ?_⟩, by simp [intOf]; omega⟩
          all_goals first
            | (have ho6 := HST.out.files; exact ho6.set_ (fun e1 => by have h9 : w.heap.size + 2 ≤ w.heap.size + 1 := (ho6.own.lt _ e1).1; omega) (fun x hx q hq => by obtain ⟨q', h1, h2, _⟩ := ho6.data x hx; rw [hq] at h1; injection h1 with h1; injection h1 with h1; simp only; omega) _)
            | exact HST.out.users.other (set_other (hO'.out.var.below HST.out.bel hO'.out.var.lt) (by decide) 2 _)
            | exact HST.out.units.keep (fun q hq hF => Below.heap_setCell _ _ _ _ (by intro e1; have h9 : w.heap.size + 2 ≤ q := hF; simp only at e1; omega))
            | (have h9 := below_both HST.out.bel ⟨w.heap.size + 1, 2, none⟩ (.slice A4 (j + 1) c4); rw [HSZ.out] at h9; exact h9)
        · obtain rfl : j = nn := by omega
          have HMU := Lib.hid (show us'.map SV.srv = s.units by rw [hmap'.out, List.take_of_length_le (by have := HNL.out.1; omega), H.out.srvs])
          obtain ⟨v0, v1, v2, vf, _⟩ := hO'.out.facts hbW
          have hR := hO'.out.res.below hbW hO'.out.res.lt
          have q0 := hR.cell 0
          have q1 := hR.cell 1
          have q2 := hR.cell 2
          have qf0 := hR.frozen 0
          have qf1 := hR.frozen 1
          have qf2 := hR.frozen 2
          have HRES : Hid (Blk (((wr.setCell ⟨w.heap.size, 0, none⟩ (.slice A' k c')).setCell ⟨w.heap.size, 1, none⟩ (.slice A8 un c8)).setCell ⟨w.heap.size, 2, none⟩ (.slice A3 j c3)) w.heap.size 38 #[.slice A' k c', .slice A8 un c8, .slice A3 j c3]) :=
            ((hR.set_ 0 (.slice A' k c')).set_ 1 (.slice A8 un c8)).set_ 2 (.slice A3 j c3)
          have HOUT := Lib.hid (obs_end hO'.out hbW ho'.out HMF.out hU'.out hV'.out HMU.out (.slice A' k c') (.slice A8 un c8) (.slice A3 j c3))
          clear hR hbW hbw hsz vf
          go_wp2_with (fail)
          exact bodyPost_ret (results_aggr (t := 2) (g := w.heap.size) rfl rfl Tryd.isAgg38 Tryd.sizeOf38 rfl HRES.out) rfl ⟨_, _, _, _, _, _, _, _, _, _, _, rfl, HOUT.out⟩
end Go.Proofs.YtibndaianhlcaaaDoor
namespace Go.Proofs.YtibndaianhlcaaaDoor
open Go.RowKit Go.Sort Go.Shelf
set_option linter.unusedVariables false
set_option linter.unusedSimpArgs false

/-- Sizes that memory can hold. -/
structure SmallM (s : Mach) : Prop where
  data : ∀ x ∈ s.files, x.data.length ≤ 1000000000
  lists : ∀ u ∈ s.units, u.req.length ≤ 1000000000 ∧ u.aft.length ≤ 1000000000
structure SmallP (a : ActP) : Prop where
  data : a.file.data.length ≤ 1000000000
  lists : a.unit.req.length ≤ 1000000000 ∧ a.unit.aft.length ≤ 1000000000
theorem small_new : SmallM newM := ⟨(fun x h => by cases h), (fun u h => by cases h)⟩
theorem small_ite {c : Prop} [Decidable c] {x y : Mach × Int} (h1 : SmallM x.1) (h2 : SmallM y.1) : SmallM (if c then x else y).1 := by
  split
  · exact h1
  · exact h2
theorem doM_small {s : Mach} (h : SmallM s) {a : ActP} (ha : SmallP a) : SmallM (doM s a).1 := by
  obtain ⟨h1, h2⟩ := h
  unfold doM doStop doFile doUser doStart
  repeat' first
    | apply small_ite
    | exact ⟨h1, h2⟩
    | exact ⟨h1, fun u hu => h2 u (List.mem_of_mem_eraseIdx hu)⟩
    | exact ⟨fun x hx => h1 x (List.mem_filter.1 hx).1, h2⟩
    | exact ⟨fun x hx => by rcases List.mem_or_eq_of_mem_set hx with h | rfl; exact h1 x h; exact ha.data, h2⟩
    | exact ⟨fun x hx => by rcases mem_ins hx with h | rfl; exact h1 x h; exact ha.data, h2⟩
    | exact ⟨h1, fun u hu => by rcases List.mem_append.1 hu with h | h; exact h2 u h; rw [List.mem_singleton.1 h]; exact ha.lists⟩
theorem MachV.small {w : World} {F : Nat → Prop} {g : Nat} {s : Mach} {fA : Option Addr} {fn fc : Nat} {es : List EV} {uA : Option Addr} {un uc : Nat} {nA : Option Addr} {nn nc : Nat} {us : List SV} {pA : Option Addr} {pn pc : Nat} (h : MachV w F g s fA fn fc es uA un uc nA nn nc us pA pn pc) (hg : GoodM s) (hs : SmallM s) : SmallV s es us :=
  ⟨by have := hg.nf; omega, by have := hg.nu; omega, by have := hg.nn; omega, fun e he => hs.data e.ent (by rw [← h.ents]; exact List.mem_map.2 ⟨e, he, rfl⟩), fun u hu => hs.lists u.srv (by rw [← h.srvs]; exact List.mem_map.2 ⟨u, hu, rfl⟩)⟩
/-- A machine in a law's run. -/
structure MRun (w : World) (B : Nat) (W : World) (F : Nat → Prop) (g : Nat) (s : Mach) : Prop where
  mach : MachAt W F g s
  good : GoodM s
  small : SmallM s
  foot : ∀ k, F k → k = g ∨ B ≤ k
  lt : ∀ k, F k → k < W.heap.size
  bel : Below w.heap.size w W
  g0 : w.heap.size ≤ g
  b0 : w.heap.size ≤ B
  b1 : B ≤ W.heap.size
theorem MRun.low {w W : World} {B : Nat} {F : Nat → Prop} {g : Nat} {s : Mach} (h : MRun w B W F g s) : ∀ k, F k → w.heap.size ≤ k := fun k hk => by
  have h1 := h.g0
  have h2 := h.b0
  rcases h.foot k hk with h | h <;> omega
theorem MRun.below {w W W' : World} {B : Nat} {F : Nat → Prop} {g : Nat} {s : Mach} (h : MRun w B W F g s) (hb : Below W.heap.size W W') : MRun w B W' F g s := by
  obtain ⟨fA, fn, fc, es, uA, un, uc, nA, nn, nc, us, pA, pn, pc, hm⟩ := h.mach
  have hs := hb.size
  have hz := h.bel.size
  exact ⟨⟨fA, fn, fc, es, uA, un, uc, nA, nn, nc, us, pA, pn, pc, hm.below hb⟩, h.good, h.small, h.foot, fun k hk => by have := h.lt k hk; omega, h.bel.trans (hb.mono hz), h.g0, h.b0, Nat.le_trans h.b1 hs⟩
theorem MRun.did {w W W' : World} {B : Nat} {F : Nat → Prop} {g : Nat} {s : Mach} (h : MRun w B W F g s) {a : ActP} (ha : SmallP a) {e : Ending} (hp : MachPost W F g (doM s a) e W') :
    e = .returned (.int .i64 (doM s a).2) ∧ MRun w B W' (Fn F W W') g (doM s a).1 ∧ Step W W' F (Fn F W W') := by
  have hs := hp.2.2.size
  have hz := h.bel.size
  have hb1 := h.b1
  refine ⟨hp.1, ⟨hp.2.1, doM_good h.good a, doM_small h.small ha, fun k hk => ?_, fun k hk => ?_, h.bel.trans (hp.2.2.below hz h.low), h.g0, h.b0, by omega⟩, hp.2.2⟩
  · rcases hk with hk | hk
    · exact h.foot k hk
    · exact .inr (by omega)
  · rcases hk with hk | hk
    · have := h.lt k hk; omega
    · exact hk.2
/-- A step that is asked of a machine in a run. -/
theorem MRun.do_ {w W : World} {B : Nat} {F : Nat → Prop} {g : Nat} {s : Mach} (h : MRun w B W F g s) {a : AV} {C : Nat} (ha : ActAt W C a) (hC : C ≤ W.heap.size) (hs : SmallA a) (hap : ActApart F a) :
    Calls Tryd.prog 10 #[.pointer (some ⟨g, 0, none⟩), .agg (avArr a)] W (MachPost W F g (doM s a.act)) :=
  do_any h.mach h.good ha hC hs hap h.lt
theorem MRun.seen {w W : World} {B : Nat} {F : Nat → Prop} {g : Nat} {s : Mach} (h : MRun w B W F g s) : Calls Tryd.prog 9 #[.pointer (some ⟨g, 0, none⟩)] W (obsPost W s) := by
  obtain ⟨fA, fn, fc, es, uA, un, uc, nA, nn, nc, us, pA, pn, pc, hm⟩ := h.mach
  exact observe_any hm (hm.small h.good h.small)
theorem MRun.planned {w W W' : World} {B : Nat} {F : Nat → Prop} {g : Nat} {s : Mach} (h : MRun w B W F g s) {p : List Bool} (hm : MachAt W' (Fn F W W') g ⟨s.files, s.users, s.units, p⟩) (hst : Step W W' F (Fn F W W')) : MRun w B W' (Fn F W W') g ⟨s.files, s.users, s.units, p⟩ := by
  have hs := hst.size
  have hz := h.bel.size
  have hb1 := h.b1
  obtain ⟨g1, g2, g3, g4, g5, g6, g7⟩ := h.good
  refine ⟨hm, ⟨g1, g2, g3, g4, g5, g6, g7⟩, ⟨h.small.data, h.small.lists⟩, fun k hk => ?_, fun k hk => ?_, h.bel.trans (hst.below hz h.low), h.g0, h.b0, by omega⟩
  · rcases hk with hk | hk
    · exact h.foot k hk
    · exact .inr (by omega)
  · rcases hk with hk | hk
    · have := h.lt k hk; omega
    · exact hk.2
/-- A block that no step of the machine reaches. -/
structure KeepB (W : World) (F : Nat → Prop) (g : Nat) (t : TypeId) (cs : Array Value) : Prop where
  blk : Blk W g t cs
  out : ¬ F g
theorem KeepB.step {W W' : World} {F : Nat → Prop} {g : Nat} {t : TypeId} {cs : Array Value} (h : KeepB W F g t cs) (st : Step W W' F (Fn F W W')) : KeepB W' (Fn F W W') g t cs :=
  ⟨h.blk.step st h.out, fun hk => by rcases hk with hk | hk; exact h.out hk; have := h.blk.lt; omega⟩
theorem KeepB.below {W W' : World} {F : Nat → Prop} {g : Nat} {t : TypeId} {cs : Array Value} (h : KeepB W F g t cs) (hb : Below W.heap.size W W') : KeepB W' F g t cs := ⟨h.blk.below hb h.blk.lt, h.out⟩
theorem KeepB.new {W : World} {F : Nat → Prop} (hF : ∀ k, F k → k < W.heap.size) (t : TypeId) (cs : Array Value) : KeepB (W.alloc (.cells cs t)) F W.heap.size t cs := ⟨Blk.new _ _ _, fun h => by have := hF _ h; omega⟩
theorem bel_new (W : World) (o : Obj) : Below W.heap.size W (W.alloc o) := (Below.refl _ W).alloc (Nat.le_refl _) o
theorem ObsOut.nn {w w' : World} {s : Mach} {A : Option Addr} {n c : Nat} {es : List EV} {A2 : Option Addr} {n2 c2 : Nat} {A3 : Option Addr} {n3 c3 : Nat} {us : List SV} (h : ObsOut w w' s A n c es A2 n2 c2 A3 n3 c3 us) : n3 = s.units.length := by
  have h1 := h.units.len
  have h2 := congrArg List.length h.srvs
  rw [List.length_map] at h2
  omega
theorem load_act_mark (x : Value) : Instr.loadAt 48 x = LoadS 48 x := rfl
theorem load_obs_mark (x : Value) : Instr.loadAt 38 x = LoadS 38 x := rfl
theorem load_act {w : World} {g : Nat} {cs : Array Value} (h : Blk w g 48 cs) (hc : cs.size = 9) : (LoadS 48 (.pointer (some ⟨g, 0, none⟩))).run Tryd.prog w = .ok (.agg cs) w := by
  have h1 := LoadS.of_blk (P := Tryd.prog) (n := 9) (o := 0) h Tryd.underlying48 rfl (by kernel_rfl) (by omega)
  rwa [show cs.extract 0 (0 + 9) = cs by rw [← hc, Nat.zero_add, Array.extract_size]] at h1
theorem load_obs {w : World} {g : Nat} {cs : Array Value} (h : Blk w g 38 cs) (hc : cs.size = 3) : (LoadS 38 (.pointer (some ⟨g, 0, none⟩))).run Tryd.prog w = .ok (.agg cs) w := by
  have h1 := LoadS.of_blk (P := Tryd.prog) (n := 3) (o := 0) h Tryd.underlying38 rfl (by kernel_rfl) (by omega)
  rwa [show cs.extract 0 (0 + 3) = cs by rw [← hc, Nat.zero_add, Array.extract_size]] at h1
theorem slc_none (w : World) (B sz : Nat) : Slc w B sz none 0 0 [] := ⟨by simp, Nat.le_refl _, Nat.zero_le _, fun h => absurd h (by decide)⟩
end Go.Proofs.YtibndaianhlcaaaDoor
namespace Go.Proofs.YtibndaianhlcaaaDoor
open Go.RowKit Go.Sort Go.Shelf
set_option linter.unusedVariables false
set_option linter.unusedSimpArgs false

def aU20 : AV := ⟨6, [117], ⟨[], 0, [], none, 0, 0⟩, ⟨[117], [114, 117, 110], [], none, 0, 0, [], none, 0, 0⟩⟩
def aV20 (A : Option Addr) : AV := ⟨6, [118], ⟨[], 0, [], none, 0, 0⟩, ⟨[118], [114, 117, 110], [[119]], A, 1, 1, [], none, 0, 0⟩⟩
def aS20 : AV := ⟨1, [117], ⟨[], 0, [], none, 0, 0⟩, ⟨[], [], [], none, 0, 0, [], none, 0, 0⟩⟩
def r1_20 : Mach × Int := doM newM aU20.act
def r2_20 : Mach × Int := doM r1_20.1 aU20.act
def r3_20 : Mach × Int := doM r2_20.1 (aV20 none).act
def s4_20 : Mach := ⟨r3_20.1.files, r3_20.1.users, r3_20.1.units, [true, false]⟩
def r5_20 : Mach × Int := doM s4_20 aS20.act
def r6_20 : Mach × Int := doM r5_20.1 aS20.act
def r7_20 : Mach × Int := doM r6_20.1 aS20.act
theorem shown20_facts : r1_20.2 = 0 ∧ r2_20.2 = 0 ∧ r3_20.2 = 70 ∧ r5_20.2 = 71 ∧ r6_20.2 = 0 ∧ r7_20.2 = 0 ∧ r7_20.1.units.length = 0 := by decide +kernel
theorem small_const (kind : Int) (name nm st : Txt) (rq : List Txt) (A : Option Addr) (n c : Nat) (h1 : name.length ≤ 10) (h2 : nm.length ≤ 10) (h3 : st.length ≤ 10) (h4 : ∀ t ∈ rq, t.length ≤ 10) (hn : n ≤ 10) : SmallA ⟨kind, name, ⟨[], 0, [], none, 0, 0⟩, ⟨nm, st, rq, A, n, c, [], none, 0, 0⟩⟩ :=
  ⟨⟨by show 0 ≤ 1000000000; omega, by show n ≤ 1000000000; omega, by show 0 ≤ 1000000000; omega⟩, by show name.length ≤ 1000000000; omega, by show ([] : Txt).length ≤ 1000000000; simp, by show st.length ≤ 1000000000; omega, fun t ht => by
    rcases List.mem_cons.1 ht with h | h
    · rw [h]; show nm.length ≤ 1000000000; omega
    · rcases List.mem_append.1 h with h | h
      · have := h4 t h; omega
      · cases h⟩
theorem act_none {W : World} {kind : Int} {name nm st : Txt} : ActAt W 0 ⟨kind, name, ⟨[], 0, [], none, 0, 0⟩, ⟨nm, st, [], none, 0, 0, [], none, 0, 0⟩⟩ := ⟨slc_none _ _ _, slc_none _ _ _, slc_none _ _ _⟩
theorem apart_none {F : Nat → Prop} {kind : Int} {name nm st : Txt} {rq : List Txt} : ActApart F ⟨kind, name, ⟨[], 0, [], none, 0, 0⟩, ⟨nm, st, rq, none, 0, 0, [], none, 0, 0⟩⟩ := ⟨(fun x h => by cases h), (fun x h => by cases h)⟩
def cU20 : Array Value := #[.int .i64 6, .string ⟨#[117]⟩, .string ⟨#[]⟩, .int .i64 0, .slice none 0 0, .string ⟨#[117]⟩, .string ⟨#[114, 117, 110]⟩, .slice none 0 0, .slice none 0 0]
def cV20 (A : Option Addr) : Array Value := #[.int .i64 6, .string ⟨#[118]⟩, .string ⟨#[]⟩, .int .i64 0, .slice none 0 0, .string ⟨#[118]⟩, .string ⟨#[114, 117, 110]⟩, .slice A 1 1, .slice none 0 0]
def cS20 : Array Value := #[.int .i64 1, .string ⟨#[117]⟩, .string ⟨#[]⟩, .int .i64 0, .slice none 0 0, .string ⟨#[]⟩, .string ⟨#[]⟩, .slice none 0 0, .slice none 0 0]
/-- What the examples keep in memory. -/
structure Sh20 (w w1 W : World) (B : Nat) (F : Nat → Prop) (s : Mach) : Prop where
  run : MRun w B W F w.heap.size s
  u : KeepB W F w1.heap.size 48 cU20
  r : KeepB W F (w1.heap.size + 1) 9 #[.string ⟨#[119]⟩]
  v : KeepB W F (w1.heap.size + 1 + 1) 48 (cV20 (some ⟨w1.heap.size + 1, 0, none⟩))
theorem Sh20.did {w w1 W W' : World} {B : Nat} {F : Nat → Prop} {s : Mach} (h : Sh20 w w1 W B F s) {a : ActP} (ha : SmallP a) {e : Ending} (hp : MachPost W F w.heap.size (doM s a) e W') : e = .returned (.int .i64 (doM s a).2) ∧ Sh20 w w1 W' B (Fn F W W') (doM s a).1 ∧ Step W W' F (Fn F W W') := by
  obtain ⟨h1, h2, h3⟩ := h.run.did ha hp
  exact ⟨h1, ⟨h2, h.u.step h3, h.r.step h3, h.v.step h3⟩, h3⟩
theorem Sh20.loadU {w w1 W : World} {B : Nat} {F : Nat → Prop} {s : Mach} (h : Sh20 w w1 W B F s) : (LoadS 48 (.pointer (some ⟨w1.heap.size, 0, none⟩))).run Tryd.prog W = .ok (.agg cU20) W := load_act h.u.blk rfl
theorem Sh20.loadV {w w1 W : World} {B : Nat} {F : Nat → Prop} {s : Mach} (h : Sh20 w w1 W B F s) : (LoadS 48 (.pointer (some ⟨w1.heap.size + 1 + 1, 0, none⟩))).run Tryd.prog W = .ok (.agg (cV20 (some ⟨w1.heap.size + 1, 0, none⟩))) W := load_act h.v.blk rfl
theorem smallU20 : SmallA aU20 := small_const 6 [117] [117] [114, 117, 110] [] none 0 0 (by decide) (by decide) (by decide) (by decide) (by decide)
theorem smallV20 (A : Option Addr) : SmallA (aV20 A) := small_const 6 [118] [118] [114, 117, 110] [[119]] A 1 1 (by decide) (by decide) (by decide) (by decide) (by decide)
theorem smallS20 : SmallA aS20 := small_const 1 [117] [] [] [] none 0 0 (by decide) (by decide) (by decide) (by decide) (by decide)
theorem small_act (a : AV) (h1 : a.file.data = []) (h2 : a.unit.req.length ≤ 10) (h3 : a.unit.aft = []) : SmallP a.act := ⟨by show a.file.data.length ≤ _; rw [h1]; simp, by show a.unit.req.length ≤ _; omega, by show a.unit.aft.length ≤ _; rw [h3]; simp⟩
theorem Sh20.doU {w w1 W : World} {B : Nat} {F : Nat → Prop} {s : Mach} (h : Sh20 w w1 W B F s) : Calls Tryd.prog 10 #[.pointer (some ⟨w.heap.size, 0, none⟩), .agg cU20] W (MachPost W F w.heap.size (doM s aU20.act)) :=
  h.run.do_ (a := aU20) act_none (Nat.zero_le _) smallU20 apart_none
theorem Sh20.doV {w w1 W : World} {B : Nat} {F : Nat → Prop} {s : Mach} (h : Sh20 w w1 W B F s) : Calls Tryd.prog 10 #[.pointer (some ⟨w.heap.size, 0, none⟩), .agg (cV20 (some ⟨w1.heap.size + 1, 0, none⟩))] W (MachPost W F w.heap.size (doM s (aV20 none).act)) :=
  h.run.do_ (a := aV20 (some ⟨w1.heap.size + 1, 0, none⟩)) ⟨slc_none _ _ _, (h.r.blk.slc (sz := 1) (n := 1) (c := 1) (Nat.le_refl _) (Nat.le_refl _) (by decide)), slc_none _ _ _⟩ h.r.blk.lt (smallV20 _) ⟨fun x hx => by
    have hx : some (⟨w1.heap.size + 1, 0, none⟩ : Addr) = some x := hx
    injection hx with hx
    rw [← hx]
    exact h.r.out, (fun x hx => by cases hx)⟩
/-- Behind New. -/
theorem sh_start {w w1 : World} (hm : MachAt w1 (fun k => k = w.heap.size) w.heap.size newM) (hb : Below w.heap.size w w1) : ∃ W3, W3 = ((w1.alloc (.cells cU20 48)).alloc (.cells #[.string ⟨#[119]⟩] 9)).alloc (.cells (cV20 (some ⟨w1.heap.size + 1, 0, none⟩)) 48) ∧ Sh20 w w1 W3 W3.heap.size (fun k => k = w.heap.size) newM := by
  obtain ⟨fA, fn, fc, es, uA, un, uc, nA, nn, nc, us, pA, pn, pc, hv⟩ := hm
  have hlt : w.heap.size < w1.heap.size := hv.blk.lt
  have hF : ∀ k, k = w.heap.size → k < w1.heap.size := fun k hk => by omega
  have b1 : Below w1.heap.size w1 (w1.alloc (.cells cU20 48)) := bel_new _ _
  have b2 := b1.alloc b1.size (.cells #[.string ⟨#[119]⟩] 9)
  have b3 := b2.alloc b2.size (.cells (cV20 (some ⟨w1.heap.size + 1, 0, none⟩)) 48)
  refine ⟨_, rfl, ⟨⟨fA, fn, fc, es, uA, un, uc, nA, nn, nc, us, pA, pn, pc, hv.below b3⟩, good_new, small_new, fun k hk => .inl hk, fun k hk => by have := hF k hk; have := b3.size; omega, hb.trans (b3.mono hb.size), Nat.le_refl _, by have := b3.size; omega, Nat.le_refl _⟩, ⟨((Blk.new _ _ _).alloc _).alloc _, fun h => by have h : w1.heap.size = w.heap.size := h; omega⟩, ⟨?_, fun h => by have h : w1.heap.size + 1 = w.heap.size := h; omega⟩, ⟨?_, fun h => by have h : w1.heap.size + 1 + 1 = w.heap.size := h; omega⟩⟩
  · have := Blk.new (w1.alloc (.cells cU20 48)) 9 #[.string ⟨#[119]⟩]
    rw [World.size_alloc] at this
    exact this.alloc _
  · have := Blk.new ((w1.alloc (.cells cU20 48)).alloc (.cells #[.string ⟨#[119]⟩] 9)) 48 (cV20 (some ⟨w1.heap.size + 1, 0, none⟩))
    rw [World.size_alloc, World.size_alloc] at this
    exact this
/-- Behind Plan, with the act that stops. -/
structure Sh20b (w W : World) (B : Nat) (F : Nat → Prop) (s : Mach) (g : Nat) : Prop where
  run : MRun w B W F w.heap.size s
  x : KeepB W F g 48 cS20
theorem Sh20b.did {w W W' : World} {B g : Nat} {F : Nat → Prop} {s : Mach} (h : Sh20b w W B F s g) {a : ActP} (ha : SmallP a) {e : Ending} (hp : MachPost W F w.heap.size (doM s a) e W') : e = .returned (.int .i64 (doM s a).2) ∧ Sh20b w W' B (Fn F W W') (doM s a).1 g := by
  obtain ⟨h1, h2, h3⟩ := h.run.did ha hp
  exact ⟨h1, ⟨h2, h.x.step h3⟩⟩
theorem Sh20b.load {w W : World} {B g : Nat} {F : Nat → Prop} {s : Mach} (h : Sh20b w W B F s g) : (LoadS 48 (.pointer (some ⟨g, 0, none⟩))).run Tryd.prog W = .ok (.agg cS20) W := load_act h.x.blk rfl
theorem Sh20b.do_ {w W : World} {B g : Nat} {F : Nat → Prop} {s : Mach} (h : Sh20b w W B F s g) : Calls Tryd.prog 10 #[.pointer (some ⟨w.heap.size, 0, none⟩), .agg cS20] W (MachPost W F w.heap.size (doM s aS20.act)) :=
  h.run.do_ (a := aS20) act_none (Nat.zero_le _) smallS20 apart_none
theorem Sh20b.new {w W : World} {B : Nat} {F : Nat → Prop} {s : Mach} (h : MRun w B W F w.heap.size s) : Sh20b w (W.alloc (.cells cS20 48)) B F s W.heap.size := ⟨h.below (bel_new _ _), KeepB.new h.lt _ _⟩
theorem Sh20.plan {w w1 W : World} {B : Nat} {F : Nat → Prop} {s : Mach} (h : Sh20 w w1 W B F s) : Calls Tryd.prog 8 #[.pointer (some ⟨w.heap.size, 2, none⟩), .slice (some ⟨W.heap.size, 0, none⟩) 2 2] (W.alloc (.cells #[.bool true, .bool false] 4)) fun e w' => e = .returned (.tuple #[]) ∧ ∃ G, MRun w B w' G w.heap.size ⟨s.files, s.users, s.units, [true, false]⟩ := by
  have hr := h.run.below (bel_new W (.cells #[.bool true, .bool false] 4))
  have hs := (Blk.new W 4 #[.bool true, .bool false]).slc (sz := 1) (n := 2) (c := 2) (Nat.le_refl _) (Nat.le_refl _) (by decide)
  refine (plan_any hr.mach (p := [true, false]) hs (by simp) (by decide)).mono ?_
  rintro e w' ⟨rfl, hm, hst⟩
  exact ⟨rfl, _, hr.planned hm hst⟩
theorem field_running (a b c : Value) (W : World) : Sem.run Tryd.prog (Instr.field 38 (.agg #[a, b, .slice (match c with | .slice A _ _ => A | _ => none) (match c with | .slice _ n _ => n | _ => 0) (match c with | .slice _ _ k => k | _ => 0)]) 2) W = .ok (.slice (match c with | .slice A _ _ => A | _ => none) (match c with | .slice _ n _ => n | _ => 0) (match c with | .slice _ _ k => k | _ => 0)) W := by kernel_rfl
theorem field_run (a b : Value) (A : Option Addr) (n c : Nat) (W : World) : Sem.run Tryd.prog (Instr.field 38 (.agg #[a, b, .slice A n c]) 2) W = .ok (.slice A n c) W := field_running a b (.slice A n c) W
section
attribute [local go_sem ↓] load_act_mark
set_option maxRecDepth 100000 in
set_option maxHeartbeats 4000000 in
theorem shown20_any (w : World) : Calls Tryd.prog 6 #[] w fun e w' => e = .returned (.bool true) ∧ Below w.heap.size w w' := by
  have hnew := new_any w
  have HF := Lib.hid shown20_facts
  go_enter Tryd.func6, Tryd.ntmps6
  go_wp2_with (first
    | (go_at_call 7; refine hnew.mono ?_; clear hnew; rintro e w1 ⟨rfl, hm, hb⟩; obtain ⟨W3, hW3, h3⟩ := sh_start hm hb; have hl1 := h3.loadU; have hd1 := h3.doU; rw [hW3] at hl1 hd1; have H3 := Lib.hid h3; have HW3 := Lib.hid hW3; unfold cU20 cV20 at hl1 hd1; clear hm hb h3 hW3)
    | (go_at_call 10; first
      | (refine hd1.mono ?_; clear hd1 hl1; intro e w4 hp; have hp' : MachPost W3 _ _ (doM newM aU20.act) e w4 := (by rw [HW3.out]; exact hp); obtain ⟨rfl, h4, -⟩ := H3.out.did (small_act aU20 rfl (by decide) rfl) hp'; clear hp hp'; rw [show (doM newM aU20.act).2 = 0 from HF.out.1]; have hl2 := h4.loadU; have hd2 := h4.doU; have H4 := Lib.hid h4; unfold cU20 at hl2 hd2; clear h4)
      | (refine hd2.mono ?_; clear hd2 hl2; intro e w5 hp; obtain ⟨rfl, h5, -⟩ := H4.out.did (small_act aU20 rfl (by decide) rfl) hp; clear hp; rw [show (doM (doM newM aU20.act).1 aU20.act).2 = 0 from HF.out.2.1]; have hl3 := h5.loadV; have hd3 := h5.doV; have H5 := Lib.hid h5; unfold cV20 at hl3 hd3; clear h5)
      | (refine hd3.mono ?_; clear hd3 hl3; intro e w6 hp; obtain ⟨rfl, h6, -⟩ := H5.out.did (small_act (aV20 none) rfl (by decide) rfl) hp; clear hp; rw [show (doM (doM (doM newM aU20.act).1 aU20.act).1 (aV20 none).act).2 = 70 from HF.out.2.2.1]; have hpl := h6.plan; clear h6)
      | (refine hd4.mono ?_; clear hd4 hl4; intro e w8 hp; obtain ⟨he, h8⟩ := HP.out.did (small_act aS20 rfl (by decide) rfl) hp; clear hp; replace he : e = .returned (.int .i64 71) := he.trans (congrArg (fun k => Ending.returned (.int .i64 k)) HF.out.2.2.2.1); subst he; have hl5 := h8.load; have hd5 := h8.do_; have H8 := Lib.hid h8; unfold cS20 at hl5 hd5; clear h8)
      | (refine hd5.mono ?_; clear hd5 hl5; intro e w9 hp; obtain ⟨he, h9⟩ := H8.out.did (small_act aS20 rfl (by decide) rfl) hp; clear hp; replace he : e = .returned (.int .i64 0) := he.trans (congrArg (fun k => Ending.returned (.int .i64 k)) HF.out.2.2.2.2.1); subst he; have hl6 := h9.load; have hd6 := h9.do_; have H9 := Lib.hid h9; unfold cS20 at hl6 hd6; clear h9)
      | (refine hd6.mono ?_; clear hd6 hl6; intro e w10 hp; obtain ⟨he, h10⟩ := H9.out.did (small_act aS20 rfl (by decide) rfl) hp; clear hp; replace he : e = .returned (.int .i64 0) := he.trans (congrArg (fun k => Ending.returned (.int .i64 k)) HF.out.2.2.2.2.2.1); subst he; have hsee := h10.run.seen; have H10 := Lib.hid h10; clear h10))
    | (go_at_call 8; refine hpl.mono ?_; clear hpl; rintro e w7 ⟨rfl, G, h7⟩; have h7b := Sh20b.new h7; have hl4 := h7b.load; have hd4 := h7b.do_; have HP := Lib.hid h7b; unfold cS20 at hl4 hd4; clear h7 h7b)
    | (go_at_call 9; refine hsee.mono ?_; clear hsee; rintro e w11 ⟨A, n, c, es, A2, n2, c2, A3, n3, c3, us, rfl, ho⟩; have hn3 : n3 = 0 := ho.nn.trans HF.out.2.2.2.2.2.2; have hfr := field_run (.slice A n c) (.slice A2 n2 c2) A3 0 c3 w11; have HB := Lib.hid (H10.out.run.bel.trans (ho.bel.mono H10.out.run.bel.size)); clear ho; subst hn3))
  go_ret
  exact ⟨rfl, HB.out⟩
end
end Go.Proofs.YtibndaianhlcaaaDoor
namespace Go.Proofs.YtibndaianhlcaaaDoor
open Go.RowKit Go.Sort Go.Shelf
set_option linter.unusedVariables false
set_option linter.unusedSimpArgs false

/-- What was observed, in blocks that are kept. -/
structure ObsK (W : World) (G : Nat → Prop) (o : OV) : Prop where
  at_ : ObsAt W W.heap.size o
  files : ∀ a, o.A = some a → G a.block
  users : ∀ a, o.A2 = some a → G a.block
  units : ∀ a, o.A3 = some a → G a.block
  data : ∀ e ∈ o.es, ∀ a, e.A = some a → G a.block
  req : ∀ u ∈ o.us, ∀ a, u.A = some a → G a.block
  aft : ∀ u ∈ o.us, ∀ a, u.A2 = some a → G a.block
theorem ObsK.step {W W' : World} {F F' G : Nat → Prop} {o : OV} (h : ObsK W G o) (st : Step W W' F F') (hd : ∀ k, G k → ¬ F k) : ObsK W' G o := by
  have key : ∀ {sz : Nat} {A : Option Addr} {n c : Nat} {xs : List Value}, Slc W W.heap.size sz A n c xs → (∀ a, A = some a → G a.block) → Slc W' W'.heap.size sz A n c xs := fun hs hg => (hs.apart st (fun a ha hF => hd _ (hg a ha) hF)).more st.size
  obtain ⟨⟨⟨h1, h2, h3⟩, h4, ⟨h5, h6, h7, h8⟩⟩, g1, g2, g3, g4, g5, g6⟩ := h
  exact ⟨⟨⟨key h1 g1, h2, fun e he => key (h3 e he) (g4 e he)⟩, key h4 g2, ⟨key h5 g3, h6, fun u hu => key (h7 u hu) (g5 u hu), fun u hu => key (h8 u hu) (g6 u hu)⟩⟩, g1, g2, g3, g4, g5, g6⟩
theorem ObsK.below {W W' : World} {G : Nat → Prop} {o : OV} (h : ObsK W G o) (hb : Below W.heap.size W W') : ObsK W' G o := h.step (F := fun _ => False) (F' := fun _ => False) ⟨hb.os, hb.tape, hb.output, hb.size, fun k hk _ => hb.block k hk, fun k hk => .inl hk⟩ (fun k _ h => h)
theorem own_in {w : World} {base : Nat} {e : TypeId} {sz : Nat} {A : Option Addr} {n m c : Nat} {xs : List Value} (h : w.ownsRow base e sz (.slice A m c) n xs) : ∀ a, A = some a → base ≤ a.block ∧ a.block < w.heap.size := fun a ha => by
  subst ha
  exact h.lt a.block rfl
theorem row_in {w : World} {F : Nat → Prop} {e : TypeId} {sz : Nat} {A : Option Addr} {n m c : Nat} {xs : List Value} (h : Row w F e sz (.slice A m c) n xs) : ∀ a, A = some a → F a.block ∧ a.block < w.heap.size := fun a ha => by
  subst ha
  exact ⟨h.foot a.block rfl, h.lt a.block rfl⟩
/-- What Observe told, kept. -/
theorem ObsOut.kept {w w' : World} {s : Mach} {A : Option Addr} {n c : Nat} {es : List EV} {A2 : Option Addr} {n2 c2 : Nat} {A3 : Option Addr} {n3 c3 : Nat} {us : List SV} (h : ObsOut w w' s A n c es A2 n2 c2 A3 n3 c3 us) :
    ObsK w' (fun k => w.heap.size ≤ k ∧ k < w'.heap.size) ⟨A, n, c, es, A2, n2, c2, s.users, A3, n3, c3, us⟩ := by
  refine ⟨⟨h.files.ents, h.users.slc', ⟨h.units.row.slc', h.units.len, fun u hu => (h.units.req u hu).slc', fun u hu => (h.units.aft u hu).slc'⟩⟩, own_in h.files.own, row_in h.users, row_in h.units.row, fun e he a ha => ?_, fun u hu => row_in (h.units.req u hu), fun u hu => row_in (h.units.aft u hu)⟩
  obtain ⟨g, g1, g2, g3, _⟩ := h.files.data e he
  rw [g1] at ha
  injection ha with ha
  subst ha
  exact ⟨g2, g3⟩
theorem sameO_of {a b : OV} (h1 : a.es.map EV.ent = b.es.map EV.ent) (h2 : a.users = b.users) (h3 : a.us.map SV.srv = b.us.map SV.srv) : sameO a b = true := (sameO_iff a b).2 ⟨h1, h2, h3⟩

/-- Steps in memory, below block B. -/
def avCells (a : AV) : List Value := (avArr a).toList
theorem avCells_length (a : AV) : (avCells a).length = 9 := rfl
structure ActsAt (w : World) (B : Nat) (A : Option Addr) (n c : Nat) (l : List AV) : Prop where
  slc : Slc w B 9 A n c (l.flatMap avCells)
  len : l.length = n
  acts : ∀ a ∈ l, ActAt w B a
theorem ActsAt.below {w w' : World} {B : Nat} {A : Option Addr} {n c : Nat} {l : List AV} (h : ActsAt w B A n c l) (hb : Below B w w') : ActsAt w' B A n c l := ⟨h.slc.below hb, h.len, fun a ha => (h.acts a ha).below hb⟩
theorem ActsAt.at_ {w : World} {B : Nat} {A : Option Addr} {n c : Nat} {l : List AV} (h : ActsAt w B A n c l) {k : Nat} (hk : k < n) :
    ∃ b off, A = some ⟨b, off, none⟩ ∧ ∃ hl : k < l.length, (LoadS 48 (.pointer (some ⟨b, off + k * 9, none⟩))).run Tryd.prog w = .ok (.agg (avArr l[k])) w ∧ ActAt w B l[k] := by
  obtain ⟨b, off, e, hb, hc⟩ := h.slc.at_ (by omega)
  have hl : k < l.length := by rw [h.len]; exact hk
  refine ⟨b, off, e, hl, ?_, h.acts _ (List.getElem_mem hl)⟩
  have hr : w.rangeAt b (off + k * 9) (avCells l[k]) := fun j v hj => by
    have hj9 : j < 9 := (List.getElem?_eq_some_iff.1 hj).1
    have := hc (k * 9 + j) v (by rw [flatMap_get avCells 9 l (fun o _ => avCells_length o) k j hl hj9]; exact hj)
    rwa [← Nat.add_assoc] at this
  have h1 := run_loadAt_mid (P := Tryd.prog) w b (off + k * 9) 48 (avCells l[k]) _ hr Tryd.underlying48 rfl (by rw [avCells_length]; kernel_rfl)
  exact h1
/-- Steps whose texts memory can hold. -/
theorem SmallA.plain {a : AV} (h : SmallA a) (h1 : a.file.data.length = a.file.n) (h2 : a.unit.req.length = a.unit.n) (h3 : a.unit.aft.length = a.unit.n2) : SmallP a.act :=
  ⟨by show a.file.data.length ≤ _; rw [h1]; exact h.lens.1, by show a.unit.req.length ≤ _; rw [h2]; exact h.lens.2.1, by show a.unit.aft.length ≤ _; rw [h3]; exact h.lens.2.2⟩
theorem ActAt.small {w : World} {B : Nat} {a : AV} (h : ActAt w B a) (hs : SmallA a) : SmallP a.act :=
  hs.plain (by have := h.data.len; simpa using this) (by have := h.req.len; simpa using this) (by have := h.aft.len; simpa using this)
theorem SmallA.same {a b : AV} (h : SmallA a) (e : b.act = a.act) (hl : ActLens b) : SmallA b := by
  obtain ⟨k, nm, ⟨fp, fk, fd, fA, fn, fc⟩, ⟨un, us, ur, uA, uan, uc, ua, uA2, un2, uc2⟩⟩ := a
  obtain ⟨k', nm', ⟨fp', fk', fd', fA', fn', fc'⟩, ⟨un', us', ur', uA', uan', uc', ua', uA2', un2', uc2'⟩⟩ := b
  simp only [AV.act, EV.ent, SV.srv, ActP.mk.injEq, Ent.mk.injEq, Srv.mk.injEq] at e
  obtain ⟨rfl, rfl, ⟨rfl, rfl, rfl⟩, rfl, rfl, rfl, rfl⟩ := e
  exact ⟨hl, h.name, h.path, h.start, h.texts⟩
/-- A copied step lies apart from the machine. -/
theorem OwnAct.apart {w : World} {F G : Nat → Prop} {a : AV} (h : OwnAct w G a) (hd : ∀ k, G k → ¬ F k) : ActApart F a :=
  ⟨fun x hx => hd _ (row_in h.req x hx).1, fun x hx => hd _ (row_in h.aft x hx).1⟩
end Go.Proofs.YtibndaianhlcaaaDoor
