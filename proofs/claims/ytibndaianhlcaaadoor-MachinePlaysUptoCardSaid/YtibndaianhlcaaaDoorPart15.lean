/- machine.Do. The walks of the reference's Same and SameTexts (bootjackref08). The reference of layer 20: are two machines alike? The reference of layer 20: Same. -/
import Derived.Test.YtibndaianhlcaaaDoorPart14
import Derived.Test.YtibndaianhlcaaaDoorPart13
import Derived.Test.YtibndaianhlcaaaDoorPart3
import Derived.Deep.QuietTactic
import Derived.BigQuiet
namespace Go.Proofs.YtibndaianhlcaaaDoor
open Go.RowKit Go.Sort Go.Shelf
set_option linter.unusedVariables false
set_option linter.unusedSimpArgs false

theorem MachPost.later {w W : World} {F : Nat → Prop} {g : Nat} {r : Mach × Int} {e : Ending} {w' : World} (h : MachPost W F g r e w') (hb : Below w.heap.size w W) : MachPost w F g r e w' :=
  ⟨h.1, h.2.1.later hb.size, ((Step.of_below hb F).trans h.2.2).fn⟩
/-- Texts of a step that memory can hold. -/
structure SmallA (a : AV) : Prop where
  lens : ActLens a
  name : a.name.length ≤ 1000000000
  path : a.file.path.length ≤ 1000000000
  start : a.unit.start.length ≤ 1000000000
  texts : ∀ t ∈ a.unit.name :: (a.unit.req ++ a.unit.aft), t.length ≤ 1000000000
structure ActApart (F : Nat → Prop) (a : AV) : Prop where
  req : ∀ x, a.unit.A = some x → ¬ F x.block
  aft : ∀ x, a.unit.A2 = some x → ¬ F x.block
theorem filter_texts (l : List Txt) (name : Txt) : l.filter (keepT name) = l.filter fun x => decide (x ≠ name) := rfl
theorem del_files {w W : World} {F : Nat → Prop} {g : Nat} {s : Mach} {fA : Option Addr} {fn fc : Nat} {es : List EV} {uA : Option Addr} {un uc : Nat} {nA : Option Addr} {nn nc : Nat} {us : List SV} {pA : Option Addr} {pn pc : Nat} (h : MachV W F g s fA fn fc es uA un uc nA nn nc us pA pn pc) (hb : Below w.heap.size w W) (name : Txt) {e : Ending} {w' : World} (hd : DelPostE W F fA fn fc es name e w') :
    ∃ m, e = .returned (.slice fA m fc) ∧ w'.cell? ⟨g, 0, none⟩ = some (.slice fA fn fc) ∧ w'.frozen? ⟨g, 0, none⟩ = false ∧ MachPost w F g (⟨s.files.filter fun x => decide (x.path ≠ name), s.users, s.units, s.plan⟩, 0) (.returned (.int .i64 0)) (w'.setCell ⟨g, 0, none⟩ (.slice fA m fc)) := by
  obtain ⟨m, rfl, hR, hg⟩ := hd
  obtain ⟨k1, k2⟩ := h.kept0 hg
  have hv := h.setFiles hg (fun _ h => h) hR (fun e he => .inl ((List.mem_filter.1 he).1))
  rw [filter_ents, h.ents] at hv
  exact ⟨m, rfl, k1, k2, rfl, ⟨_, _, _, _, _, _, _, _, _, _, _, _, _, _, hv.wide (fn_wide _ _ _)⟩, (((Step.of_below hb F).grown hg (fun k hk => .inl (h.files.foot k hk))).setCell (p := ⟨g, 0, none⟩) (.inl h.foot) _).fn⟩
theorem del_users {w W : World} {F : Nat → Prop} {g : Nat} {s : Mach} {fA : Option Addr} {fn fc : Nat} {es : List EV} {uA : Option Addr} {un uc : Nat} {nA : Option Addr} {nn nc : Nat} {us : List SV} {pA : Option Addr} {pn pc : Nat} (h : MachV W F g s fA fn fc es uA un uc nA nn nc us pA pn pc) (hb : Below w.heap.size w W) (name : Txt) {e : Ending} {w' : World} (hd : DelPostS W F uA un uc s.users name e w') :
    ∃ m, e = .returned (.slice uA m uc) ∧ w'.cell? ⟨g, 1, none⟩ = some (.slice uA un uc) ∧ w'.frozen? ⟨g, 1, none⟩ = false ∧ MachPost w F g (⟨s.files, s.users.filter fun x => decide (x ≠ name), s.units, s.plan⟩, 0) (.returned (.int .i64 0)) (w'.setCell ⟨g, 1, none⟩ (.slice uA m uc)) := by
  obtain ⟨m, rfl, hR, hg⟩ := hd
  obtain ⟨k1, k2⟩ := h.kept1 hg
  have hv := h.setUsers hg (fun _ h => h) hR (fun k hk => .inl ((own_same uA un uc m uc).trans hk))
  rw [filter_texts] at hv
  exact ⟨m, rfl, k1, k2, rfl, ⟨_, _, _, _, _, _, _, _, _, _, _, _, _, _, hv.wide (fn_wide _ _ _)⟩, (((Step.of_below hb F).grown hg (fun k hk => .inl (h.users.foot k hk))).setCell (p := ⟨g, 1, none⟩) (.inl h.foot) _).fn⟩
set_option maxRecDepth 100000 in
set_option maxHeartbeats 4000000 in
theorem do_any {w : World} {F : Nat → Prop} {g : Nat} {s : Mach} (h : MachAt w F g s) (hg : GoodM s) {B : Nat} {a : AV} (ha : ActAt w B a) (hB : B ≤ w.heap.size) (hs : SmallA a) (hap : ActApart F a) (hFl : ∀ k, F k → k < w.heap.size) :
    Calls Tryd.prog 10 #[.pointer (some ⟨g, 0, none⟩), .agg (avArr a)] w (MachPost w F g (doM s a.act)) := by
  obtain ⟨W1, hW1⟩ : ∃ W1, W1 = w.alloc (.cells (avArr a) 48) := ⟨_, rfl⟩
  have hb1 : Below w.heap.size w W1 := by rw [hW1]; exact (Below.refl _ w).alloc (Nat.le_refl _) _
  have hG1 : Blk W1 w.heap.size 48 (avArr a) := by rw [hW1]; exact Blk.new _ _ _
  have hz1 : W1.heap.size = w.heap.size + 1 := by rw [hW1]; simp
  obtain ⟨fA, fn, fc, es, uA, un, uc, nA, nn, nc, us, pA, pn, pc, h⟩ := h
  have h1 := h.below hb1
  have hm1 : MachAt W1.drew F g s := ⟨fA, fn, fc, es, uA, un, uc, nA, nn, nc, us, pA, pn, pc, h.below hb1.drew⟩
  have hFl1 : ∀ k, F k → k < W1.drew.heap.size := fun k hk => by have := hFl k hk; show k < W1.heap.size; omega
  have hb1d := hb1.drew
  have ha1 := ha.below (hb1d.mono hB)
  have hB1 : B ≤ W1.drew.heap.size := by show B ≤ W1.heap.size; omega
  have hfn := h.flen
  have hun := h.ulen
  have c1 := stop_any hm1 (by have := hg.nn; omega) a.name
  have c2 := delE_any h1.files h1.entsAt (by have := hg.nf; omega) a.name w.heap.size hG1 (by rfl)
  have c3 := delS_any h1.users (by have := hg.nu; omega) a.name w.heap.size hG1 (by rfl)
  have c4 := file_any hm1 hg.files (by have := hg.nf; omega) a.name a.file ha1.data hB1 hs.lens.1 hs.path hFl1
  have c5 := user_any hm1 hg.users (by have := hg.nu; omega) a.name hs.name hFl1
  have c6 := start_any hm1 (by have := hg.nn; omega) a.name a.unit ha1.req ha1.aft hB1 hs.lens.2 hs.texts hs.start hap.req hap.aft hFl1
  have m0 := h1.facts.1
  have m1 := h1.facts.2.1
  have hgw := h.blk.lt
  have fin : Hid (∀ w', Below w.heap.size w w' → MachPost w F g (s, 70) (.returned (.int .i64 70)) w') := fun w' hb => ⟨rfl, ⟨fA, fn, fc, es, uA, un, uc, nA, nn, nc, us, pA, pn, pc, (h.below hb).wide (fn_wide _ _ _)⟩, (Step.of_below hb F).fn⟩
  have x0 := hG1.cell 0
  have x1 := hG1.cell 1
  have x2 := hG1.cell 2
  have x3 := hG1.cell 3
  have x4 := hG1.cell 4
  have x5 := hG1.cell 5
  have x6 := hG1.cell 6
  have x7 := hG1.cell 7
  have x8 := hG1.cell 8
  obtain ⟨kind, name, ⟨fp, fk, fd, fA', fn', fc'⟩, ⟨nm, st, rq, A, n, c, af, A2, n2, c2'⟩⟩ := a
  rw [hW1] at x0 x1 x2 x3 x4 x5 x6 x7 x8 c1 c2 c3 c4 c5 c6 m0 m1
  have hHB := hb1
  have hHBD := hb1d
  have hH1 := h1
  rw [hW1] at hHB hHBD hH1
  unfold avArr at x0 x1 x2 x3 x4 x5 x6 x7 x8 c1 c2 c3 c4 c5 c6 m0 m1 hHB hHBD hH1 ⊢
  unfold evArr at c4
  unfold svArr at c6
  simp only at c1 c2 c3 c4 c5 c6 m0 m1 hHB hHBD hH1 ⊢
  simp only [List.getElem?_toArray, List.getElem?_cons_zero, List.getElem?_cons_succ] at x0 x1 x2 x3 x4 x5 x6 x7 x8
  change Calls _ _ _ _ (MachPost w F g (doM s ⟨kind, name, ⟨fp, fk, fd⟩, ⟨nm, st, rq, af⟩⟩))
  change Calls _ _ _ _ (MachPost _ F g (doFile s name ⟨fp, fk, fd⟩)) at c4
  change Calls _ _ _ _ (MachPost _ F g (doStart s name ⟨nm, st, rq, af⟩)) at c6
  have H1 := Lib.hid hH1
  have HB := Lib.hid hHB
  have HBD := Lib.hid hHBD
  clear hb1 hG1 hz1 h h1 hm1 hFl1 hb1d ha1 hB1 hfn hun ha hs hap hFl hW1 hB hHB hHBD hH1 hg
  by_cases k1 : kind = 1
  · subst k1
    rw [show doM s ⟨1, name, ⟨fp, fk, fd⟩, ⟨nm, st, rq, af⟩⟩ = doStop s name from rfl]
    clear c2 c3 c4 c5 c6
    go_enter Tryd.func10, Tryd.ntmps10
    go_wp2_with (fail)
    refine region_tail 5 (by kernel_rfl) (by kernel_rfl) ?_
    simp only [List.take_succ_cons, List.take_zero, List.drop_succ_cons, List.drop_zero]
    repeat still_step
    refine wpStill_nil ?_
    go_wp2_with (go_at_call 19; refine c1.mono ?_; clear c1; rintro e w2 ⟨rfl, hm, hst⟩; have HP := Lib.hid (MachPost.later ⟨rfl, hm, hst⟩ HBD.out); clear hm hst)
    go_ret
    exact HP.out
  by_cases k2 : kind = 2
  · subst k2
    rw [show doM s ⟨2, name, ⟨fp, fk, fd⟩, ⟨nm, st, rq, af⟩⟩ = (⟨s.files.filter fun x => decide (x.path ≠ name), s.users, s.units, s.plan⟩, 0) from rfl]
    clear c1 c3 c4 c5 c6
    go_enter Tryd.func10, Tryd.ntmps10
    go_wp2_with (go_at_call 20; refine c2.mono ?_; clear c2; intro e w2 hd; obtain ⟨m, rfl, q1, q2, HP⟩ := del_files H1.out HB.out name hd; have HP := Lib.hid HP; clear hd)
    go_ret
    exact HP.out
  by_cases k3 : kind = 3
  · subst k3
    rw [show doM s ⟨3, name, ⟨fp, fk, fd⟩, ⟨nm, st, rq, af⟩⟩ = (⟨s.files, s.users.filter fun x => decide (x ≠ name), s.units, s.plan⟩, 0) from rfl]
    clear c1 c2 c4 c5 c6
    go_enter Tryd.func10, Tryd.ntmps10
    go_wp2_with (go_at_call 22; refine c3.mono ?_; clear c3; intro e w2 hd; obtain ⟨m, rfl, q1, q2, HP⟩ := del_users H1.out HB.out name hd; have HP := Lib.hid HP; clear hd)
    go_ret
    exact HP.out
  by_cases k4 : kind = 4
  · subst k4
    rw [show doM s ⟨4, name, ⟨fp, fk, fd⟩, ⟨nm, st, rq, af⟩⟩ = doFile s name ⟨fp, fk, fd⟩ from rfl]
    clear c1 c2 c3 c5 c6
    go_enter Tryd.func10, Tryd.ntmps10
    go_wp2_with (fail)
    refine region_tail 7 (by kernel_rfl) (by kernel_rfl) ?_
    simp only [List.take_succ_cons, List.take_zero, List.drop_succ_cons, List.drop_zero]
    repeat still_step
    refine wpStill_nil ?_
    go_wp2_with (go_at_call 24; refine c4.mono ?_; clear c4; rintro e w2 ⟨rfl, hm, hst⟩; have HP := Lib.hid (MachPost.later ⟨rfl, hm, hst⟩ HBD.out); clear hm hst)
    go_ret
    exact HP.out
  by_cases k5 : kind = 5
  · subst k5
    rw [show doM s ⟨5, name, ⟨fp, fk, fd⟩, ⟨nm, st, rq, af⟩⟩ = doUser s name from rfl]
    clear c1 c2 c3 c4 c6
    go_enter Tryd.func10, Tryd.ntmps10
    go_wp2_with (fail)
    refine region_tail 5 (by kernel_rfl) (by kernel_rfl) ?_
    simp only [List.take_succ_cons, List.take_zero, List.drop_succ_cons, List.drop_zero]
    repeat still_step
    refine wpStill_nil ?_
    go_wp2_with (go_at_call 25; refine c5.mono ?_; clear c5; rintro e w2 ⟨rfl, hm, hst⟩; have HP := Lib.hid (MachPost.later ⟨rfl, hm, hst⟩ HBD.out); clear hm hst)
    go_ret
    exact HP.out
  by_cases k6 : kind = 6
  · subst k6
    rw [show doM s ⟨6, name, ⟨fp, fk, fd⟩, ⟨nm, st, rq, af⟩⟩ = doStart s name ⟨nm, st, rq, af⟩ from rfl]
    clear c1 c2 c3 c4 c5
    go_enter Tryd.func10, Tryd.ntmps10
    go_wp2_with (fail)
    refine region_tail 7 (by kernel_rfl) (by kernel_rfl) ?_
    simp only [List.take_succ_cons, List.take_zero, List.drop_succ_cons, List.drop_zero]
    repeat still_step
    refine wpStill_nil ?_
    go_wp2_with (go_at_call 26; refine c6.mono ?_; clear c6; rintro e w2 ⟨rfl, hm, hst⟩; have HP := Lib.hid (MachPost.later ⟨rfl, hm, hst⟩ HBD.out); clear hm hst)
    go_ret
    exact HP.out
  have HX := Lib.hid (show doM s ⟨kind, name, ⟨fp, fk, fd⟩, ⟨nm, st, rq, af⟩⟩ = (s, 70) by unfold doM; rw [if_neg k1, if_neg k2, if_neg k3, if_neg k4, if_neg k5, if_neg k6])
  have e1 : (kind == 1) = false := by rw [beq_eq_false_iff_ne]; exact k1
  have e2 : (kind == 2) = false := by rw [beq_eq_false_iff_ne]; exact k2
  have e3 : (kind == 3) = false := by rw [beq_eq_false_iff_ne]; exact k3
  have e4 : (kind == 4) = false := by rw [beq_eq_false_iff_ne]; exact k4
  have e5 : (kind == 5) = false := by rw [beq_eq_false_iff_ne]; exact k5
  have e6 : (kind == 6) = false := by rw [beq_eq_false_iff_ne]; exact k6
  clear c1 c2 c3 c4 c5 c6 k1 k2 k3 k4 k5 k6
  go_enter Tryd.func10, Tryd.ntmps10
  go_wp2_with (fail)
  go_ret
  rw [HX.out]
  exact fin.out _ HB.out
end Go.Proofs.YtibndaianhlcaaaDoor
namespace Go.Proofs.YtibndaianhlcaaaDoor
open Go.RowKit Go.Sort
set_option linter.unusedVariables false
set_option linter.unusedSimpArgs false

/-- Two entries are the same. -/
def entEq (x y : Ent) : Bool := x.path == y.path && (x.kind == y.kind && x.data == y.data)
def entsEqTo (a b : List Ent) (k : Nat) : Bool := (List.range k).all fun i => match a[i]?, b[i]? with
  | some x, some y => entEq x y
  | _, _ => true
/-- Two lists are the same. -/
def entsEq (a b : List Ent) : Bool := decide (a.length = b.length) && entsEqTo a b a.length
theorem entsEqTo_succ (a b : List Ent) (k : Nat) (ha : k < a.length) (hb : k < b.length) : entsEqTo a b (k + 1) = (entsEqTo a b k && entEq a[k] b[k]) := by
  unfold entsEqTo
  rw [List.range_succ, List.all_append]
  simp [List.getElem?_eq_getElem ha, List.getElem?_eq_getElem hb]
theorem entEq_iff (x y : Ent) : entEq x y = true ↔ x = y := by
  obtain ⟨p, k, d⟩ := x
  obtain ⟨p', k', d'⟩ := y
  unfold entEq
  simp [Bool.and_eq_true]
theorem entsEqTo_false {a b : List Ent} {k : Nat} (h : entsEqTo a b k = false) : ∀ {n}, k ≤ n → entsEqTo a b n = false := by
  intro n hn
  unfold entsEqTo at *
  rw [List.all_eq_false] at *
  obtain ⟨x, hx, hp⟩ := h
  exact ⟨x, by rw [List.mem_range] at *; omega, hp⟩
theorem entsEq_iff (a b : List Ent) : entsEq a b = true ↔ a = b := by
  unfold entsEq
  rw [Bool.and_eq_true, decide_eq_true_iff]
  constructor
  · rintro ⟨hl, h⟩
    refine List.ext_getElem hl fun i h1 h2 => ?_
    unfold entsEqTo at h
    have := List.all_eq_true.1 h i (List.mem_range.2 h1)
    rw [List.getElem?_eq_getElem h1, List.getElem?_eq_getElem h2] at this
    exact (entEq_iff _ _).1 this
  · rintro rfl
    refine ⟨rfl, ?_⟩
    unfold entsEqTo
    rw [List.all_eq_true]
    intro i hi
    rw [List.mem_range] at hi
    rw [List.getElem?_eq_getElem hi]
    exact (entEq_iff _ _).2 rfl

theorem txt_beq (a b : Txt) : (a != b) = !decide (a = b) := by
  by_cases h : a = b <;> simp [h]

theorem dr_below {B : Nat} (w : World) (k : Nat) : Below B w (w.drewN k) := ⟨rfl, rfl, rfl, Nat.le_refl _, fun _ _ => rfl⟩
theorem drewN_more {w wr : World} (h : ∃ q, wr = w.drewN q) (n : Nat) : ∃ q, wr.drewN n = w.drewN q := by
  obtain ⟨q, rfl⟩ := h
  exact ⟨q + n, by unfold World.drewN; simp [Nat.add_assoc]⟩

set_option maxRecDepth 100000 in
set_option maxHeartbeats 2000000 in
theorem refSame_any {w : World} {B B' : Nat} {A A' : Option Addr} {n n' c c' : Nat} {es fs : List EV} (h : EntsAt w B A n c es) (h' : EntsAt w B' A' n' c' fs) :
    Calls Tryd.prog 27 #[.slice A n c, .slice A' n' c'] w fun e w' => e = .returned (.bool (entsEq (es.map EV.ent) (fs.map EV.ent))) ∧ ∃ q, w' = w.drewN q := by
  have hn62 : n ≤ 9223372036854775807 := by have h1 := h.slc.le; have h2 := h.slc.cmax; unfold maxLen at h2; omega
  have hn62' : n' ≤ 9223372036854775807 := by have h1 := h'.slc.le; have h2 := h'.slc.cmax; unfold maxLen at h2; omega
  obtain ⟨a, ha⟩ : ∃ a, a = es.map EV.ent := ⟨_, rfl⟩
  obtain ⟨b, hb⟩ : ∃ b, b = fs.map EV.ent := ⟨_, rfl⟩
  have hal : a.length = n := by rw [ha, List.length_map, h.len]
  have hbl : b.length = n' := by rw [hb, List.length_map, h'.len]
  rw [← ha, ← hb]
  have HA := Lib.hid ha
  have HBE := Lib.hid hb
  have HAL := Lib.hid hal
  have HBL := Lib.hid hbl
  have H := Lib.hid h
  have H' := Lib.hid h'
  by_cases hne : n = n'
  case neg =>
    have HX := Lib.hid (show entsEq a b = false by unfold entsEq; rw [decide_eq_false (by omega)]; rfl)
    have hk : ((n : Int) != (n' : Int)) = true := by simp; omega
    clear h h' ha hb hal hbl
    go_enter Tryd.func27, Tryd.ntmps27
    go_wp2
    go_ret
    exact ⟨by rw [HX.out]; rfl, 0, rfl⟩
  subst hne
  have HX := Lib.hid (show entsEq a b = entsEqTo a b n by unfold entsEq; rw [decide_eq_true (by omega), hal]; rfl)
  clear h h' ha hb hal hbl
  go_enter Tryd.func27, Tryd.ntmps27
  go_wp2
  go_loopw [5] (fun i wr => ∃ k : Nat, k ≤ n ∧ i = .int .i64 (k : Int) ∧ Aside (entsEqTo a b k = true) ∧ Aside (∃ q, wr = w.drewN q)) (fun i _ => n - (intOf i).toNat)
  case atStart => exact ⟨0, Nat.zero_le _, rfl, rfl, 0, rfl⟩
  case round =>
    obtain ⟨k, hk, rfl, hto, hdr⟩ := hrel
    have hbw : ∀ B, Below B w wr := fun B => by obtain ⟨q0, hq0⟩ := hdr.out; rw [hq0]; exact ⟨rfl, rfl, rfl, Nat.le_refl _, fun _ _ => rfl⟩
    by_cases hlt : k < n
    · obtain ⟨g, off, rfl, _, hkl, c0, c1, c2, hS⟩ := (H.out.below (hbw _)).at_ hlt
      obtain ⟨g', off', rfl, _, hkl', d0, d1, d2, hS'⟩ := (H'.out.below (hbw _)).at_ hlt
      have hka : k < a.length := by rw [HAL.out]; exact hlt
      have hkb : k < b.length := by rw [HBL.out]; exact hlt
      have HSU := Lib.hid (entsEqTo_succ a b k hka hkb)
      have hea : a[k] = es[k].ent := by have := HA.out; subst this; simp
      have heb : b[k] = fs[k].ent := by have := HBE.out; subst this; simp
      rw [hea, heb] at HSU
      have HF := Lib.hid (fun (he : entsEqTo a b (k + 1) = false) => show entsEq a b = false by rw [HX.out]; exact entsEqTo_false he (by omega))
      generalize es[k] = x at *
      generalize fs[k] = y at *
      have hcx := fun m : Nat => convert_bytes (P := Tryd.prog) Tryd.underlying42 Tryd.underlying5 (hS.below (dr_below wr m)) 9 Tryd.underlying9
      have hcy := fun m : Nat => convert_bytes (P := Tryd.prog) Tryd.underlying42 Tryd.underlying5 (hS'.below (dr_below wr m)) 9 Tryd.underlying9
      have tx : (ByteArray.mk x.path.toArray).toList = x.path := Go.ByteArray.toList_eq _
      have ty : (ByteArray.mk y.path.toArray).toList = y.path := Go.ByteArray.toList_eq _
      clear hea heb hka hkb hbw hS hS'
      have HGO := Lib.hid (fun (he : entEq x.ent y.ent = true) => show entsEqTo a b (k + 1) = true by rw [HSU.out, hto.out, he]; rfl)
      replace HF := Lib.hid (fun (he : entEq x.ent y.ent = false) => HF.out (by rw [HSU.out, he, Bool.and_false]))
      clear HSU
      unfold entEq EV.ent at HF HGO
      cases k1 : (x.path == y.path) with
      | false =>
        have HR := Lib.hid (HF.out (by simp only [k1]; rfl))
        go_wp2
        go_quiet (fail)
        go_wp2
        go_ret
        exact ⟨by rw [HR.out]; rfl, drewN_more hdr.out _⟩
      | true =>
        cases k2 : (x.kind == y.kind) with
        | false =>
          have HR := Lib.hid (HF.out (by simp only [k1, k2]; rfl))
          have k2' : (x.kind != y.kind) = true := by rw [bne, k2]; rfl
          go_wp2
          go_quiet (fail)
          go_wp2
          go_ret
          exact ⟨by rw [HR.out]; rfl, drewN_more hdr.out _⟩
        | true =>
          have k2' : (x.kind != y.kind) = false := by rw [bne, k2]; rfl
          have tdx : (ByteArray.mk x.data.toArray).toList = x.data := Go.ByteArray.toList_eq _
          have tdy : (ByteArray.mk y.data.toArray).toList = y.data := Go.ByteArray.toList_eq _
          cases k3 : (x.data == y.data) with
          | false =>
            have HR := Lib.hid (HF.out (by simp only [k1, k2, k3]; rfl))
            go_wp2
            go_quiet (fail)
            go_wp2
            go_ret
            exact ⟨by rw [HR.out]; rfl, drewN_more hdr.out _⟩
          | true =>
            have HR := Lib.hid (HGO.out (by simp only [k1, k2, k3]; rfl))
            go_wp2
            go_quiet (fail)
            go_wp2
            exact ⟨⟨k + 1, by omega, by go_num, HR.out, drewN_more hdr.out _⟩, by simp [intOf]; omega⟩
    · obtain rfl : k = n := by omega
      go_wp2
      go_ret
      exact ⟨by rw [HX.out, hto.out]; rfl, hdr.out⟩
end Go.Proofs.YtibndaianhlcaaaDoor
namespace Go.Proofs.YtibndaianhlcaaaDoor
open Go.RowKit Go.Sort Go.Shelf
set_option linter.unusedVariables false
set_option linter.unusedSimpArgs false

theorem txtAt {w : World} {B : Nat} {A : Option Addr} {n c : Nat} {L : List Txt} (h : Slc w B 1 A n c (L.map encStr)) {k : Nat} (hk : k < n) :
    ∃ b off, A = some ⟨b, off, none⟩ ∧ b < B ∧ ∃ hl : k < L.length, w.cell? ⟨b, off + k, none⟩ = some (.string ⟨L[k].toArray⟩) := by
  obtain ⟨b, off, e, hb, hc⟩ := h.at_ (by omega)
  have hl : k < L.length := by have := h.len; simp at this; omega
  exact ⟨b, off, e, hb, hl, hc k _ (by simp [encStr, List.getElem?_map, List.getElem?_eq_getElem hl])⟩
theorem take_ne {α : Type} {a b : List α} {k : Nat} (ha : k < a.length) (hb : k < b.length) (h : a[k] ≠ b[k]) : a ≠ b := by
  rintro rfl
  exact h rfl
theorem take_more {α : Type} {a b : List α} {k : Nat} (h : a.take k = b.take k) (ha : k < a.length) (hb : k < b.length) (e : a[k] = b[k]) : a.take (k + 1) = b.take (k + 1) := by
  rw [List.take_succ_eq_append_getElem ha, List.take_succ_eq_append_getElem hb, h, e]
theorem take_whole {α : Type} {a b : List α} {k : Nat} (h : a.take k = b.take k) (ha : a.length = k) (hb : b.length = k) : a = b := by
  rw [List.take_of_length_le (by omega), List.take_of_length_le (by omega)] at h
  exact h
set_option maxRecDepth 100000 in
set_option maxHeartbeats 1000000 in
theorem sameTexts_any {w : World} {B B' : Nat} {A A' : Option Addr} {n n' c c' : Nat} {L M : List Txt} (h : Slc w B 1 A n c (L.map encStr)) (h' : Slc w B' 1 A' n' c' (M.map encStr)) :
    Calls Tryd.prog 28 #[.slice A n c, .slice A' n' c'] w fun e w' => e = .returned (.bool (decide (L = M))) ∧ ∃ q, w' = w.drewN q := by
  have hL : L.length = n := by have := h.len; simpa using this
  have hM : M.length = n' := by have := h'.len; simpa using this
  have hn62 : n ≤ 9223372036854775807 := by have h1 := h.le; have h2 := h.cmax; unfold maxLen at h2; omega
  have H := Lib.hid h
  have H' := Lib.hid h'
  have HL := Lib.hid hL
  have HM := Lib.hid hM
  by_cases hne : n = n'
  case neg =>
    have HX := Lib.hid (show decide (L = M) = false from decide_eq_false (fun e => hne (by rw [← hL, ← hM, e])))
    have hk : ((n : Int) != (n' : Int)) = true := by simp; omega
    clear h h' hL hM
    go_enter Tryd.func28, Tryd.ntmps28
    go_wp2
    go_ret
    exact ⟨by rw [HX.out]; rfl, 0, rfl⟩
  subst hne
  clear h h' hL hM
  go_enter Tryd.func28, Tryd.ntmps28
  go_wp2
  go_loopw [5] (fun i wr => ∃ k : Nat, k ≤ n ∧ i = .int .i64 (k : Int) ∧ Aside (L.take k = M.take k) ∧ Aside (∃ q, wr = w.drewN q)) (fun i _ => n - (intOf i).toNat)
  case atStart => exact ⟨0, Nat.zero_le _, rfl, rfl, 0, rfl⟩
  case round =>
    obtain ⟨k, hk, rfl, hto, hdr⟩ := hrel
    have hbw : ∀ B, Below B w wr := fun B => by obtain ⟨q0, hq0⟩ := hdr.out; rw [hq0]; exact ⟨rfl, rfl, rfl, Nat.le_refl _, fun _ _ => rfl⟩
    by_cases hlt : k < n
    · obtain ⟨g, off, rfl, _, hkl, c0⟩ := txtAt (H.out.below (hbw _)) hlt
      obtain ⟨g', off', rfl, _, hkl', d0⟩ := txtAt (H'.out.below (hbw _)) hlt
      have HNE := Lib.hid (fun (e : L[k] ≠ M[k]) => take_ne hkl hkl' e)
      have HEQ := Lib.hid (fun (e : L[k] = M[k]) => take_more hto.out hkl hkl' e)
      clear hbw
      generalize L[k] = x at *
      generalize M[k] = y at *
      have tx : (ByteArray.mk x.toArray).toList = x := Go.ByteArray.toList_eq _
      have ty : (ByteArray.mk y.toArray).toList = y := Go.ByteArray.toList_eq _
      cases k1 : (x == y) with
      | false =>
        have HX := Lib.hid (show decide (L = M) = false from decide_eq_false (HNE.out (fun e => by rw [e] at k1; simp at k1)))
        go_wp2
        go_quiet (fail)
        go_wp2
        go_ret
        exact ⟨by rw [HX.out]; rfl, drewN_more hdr.out _⟩
      | true =>
        have HT := Lib.hid (HEQ.out (by simpa using k1))
        go_wp2
        go_quiet (fail)
        go_wp2
        exact ⟨⟨k + 1, by omega, by go_num, HT.out, drewN_more hdr.out _⟩, by simp [intOf]; omega⟩
    · obtain rfl : k = n := by omega
      have HX := Lib.hid (show decide (L = M) = true from decide_eq_true (take_whole hto.out HL.out HM.out))
      go_wp2
      go_ret
      exact ⟨by rw [HX.out]; rfl, hdr.out⟩
set_option maxRecDepth 100000 in
set_option maxHeartbeats 1000000 in
theorem sameUnit_any {w : World} {B : Nat} (a b : SV) (a1 : Slc w B 1 a.A a.n a.c (a.req.map encStr)) (a2 : Slc w B 1 a.A2 a.n2 a.c2 (a.aft.map encStr)) (b1 : Slc w B 1 b.A b.n b.c (b.req.map encStr)) (b2 : Slc w B 1 b.A2 b.n2 b.c2 (b.aft.map encStr)) (hB : B ≤ w.heap.size) :
    Calls Tryd.prog 50 #[.agg (svArr a), .agg (svArr b)] w fun e w' => e = .returned (.bool (decide (a.srv = b.srv))) ∧ Below w.heap.size w w' := by
  obtain ⟨an, asx, ar, aA, an1, ac1, aa, aA2, an2, ac2⟩ := a
  obtain ⟨bn, bsx, br, bA, bn1, bc1, ba, bA2, bn2, bc2⟩ := b
  simp only at a1 a2 b1 b2
  have hb1 : Below w.heap.size w ((w.alloc (.cells #[.string ⟨an.toArray⟩, .string ⟨asx.toArray⟩, .slice aA an1 ac1, .slice aA2 an2 ac2] 46)).alloc (.cells #[.string ⟨bn.toArray⟩, .string ⟨bsx.toArray⟩, .slice bA bn1 bc1, .slice bA2 bn2 bc2] 46)) := ((Below.refl _ w).alloc (Nat.le_refl _) _).alloc (by simp) _
  have he1 := sameTexts_any (a1.below (hb1.mono hB)) (b1.below (hb1.mono hB))
  have he2 : ∀ q, _ := fun q => sameTexts_any (a2.below (bel_drewN (hb1.mono hB) q)) (b2.below (bel_drewN (hb1.mono hB) q))
  have HB1 := Lib.hid hb1
  have HE2 := Lib.hid he2
  have HS := Lib.hid (show ((⟨an, asx, ar, aa⟩ : Srv) = ⟨bn, bsx, br, ba⟩) ↔ (an = bn ∧ asx = bsx ∧ ar = br ∧ aa = ba) by simp)
  have t1 : (ByteArray.mk an.toArray).toList = an := Go.ByteArray.toList_eq _
  have t2 : (ByteArray.mk bn.toArray).toList = bn := Go.ByteArray.toList_eq _
  have t3 : (ByteArray.mk asx.toArray).toList = asx := Go.ByteArray.toList_eq _
  have t4 : (ByteArray.mk bsx.toArray).toList = bsx := Go.ByteArray.toList_eq _
  clear a1 a2 b1 b2 hb1 he2
  show Calls _ _ _ _ fun e w' => e = .returned (.bool (decide ((⟨an, asx, ar, aa⟩ : Srv) = ⟨bn, bsx, br, ba⟩))) ∧ Below w.heap.size w w'
  unfold svArr
  cases h1 : (an == bn) with
  | false =>
    have H := Lib.hid (show decide ((⟨an, asx, ar, aa⟩ : Srv) = ⟨bn, bsx, br, ba⟩) = false from decide_eq_false (fun h => by have := (HS.out.1 h).1; simp [this] at h1))
    go_enter Tryd.func50, Tryd.ntmps50
    go_wp2_with (go_at_call 28; first
          | (refine he1.mono ?_; clear he1; rintro e w1 ⟨rfl, q, rfl⟩; have he2 := HE2.out q)
          | (refine he2.mono ?_; clear he2; rintro e w2 ⟨rfl, q2, rfl⟩))
    go_ret
    exact ⟨by rw [H.out]; rfl, bel_drewN HB1.out _⟩
  | true =>
    cases h2 : (asx == bsx) with
    | false =>
      have H := Lib.hid (show decide ((⟨an, asx, ar, aa⟩ : Srv) = ⟨bn, bsx, br, ba⟩) = false from decide_eq_false (fun h => by have := (HS.out.1 h).2.1; simp [this] at h2))
      go_enter Tryd.func50, Tryd.ntmps50
      go_wp2_with (go_at_call 28; first
          | (refine he1.mono ?_; clear he1; rintro e w1 ⟨rfl, q, rfl⟩; have he2 := HE2.out q)
          | (refine he2.mono ?_; clear he2; rintro e w2 ⟨rfl, q2, rfl⟩))
      go_ret
      exact ⟨by rw [H.out]; rfl, bel_drewN HB1.out _⟩
    | true =>
      have HD := Lib.hid (show decide ((⟨an, asx, ar, aa⟩ : Srv) = ⟨bn, bsx, br, ba⟩) = (decide (ar = br) && decide (aa = ba)) by
        rw [Bool.eq_iff_iff, Bool.and_eq_true, decide_eq_true_iff, decide_eq_true_iff, decide_eq_true_iff]
        exact ⟨fun h => (HS.out.1 h).2.2, fun h => HS.out.2 ⟨by simpa using h1, by simpa using h2, h.1, h.2⟩⟩)
      generalize decide ((⟨an, asx, ar, aa⟩ : Srv) = ⟨bn, bsx, br, ba⟩) = D at *
      generalize decide (ar = br) = d1 at *
      generalize decide (aa = ba) = d2 at *
      have HD' := HD.out
      subst HD'
      clear HD HS
      cases d1 <;> cases d2 <;> (
        go_enter Tryd.func50, Tryd.ntmps50
        go_wp2_with (go_at_call 28; first
          | (refine he1.mono ?_; clear he1; rintro e w1 ⟨rfl, q, rfl⟩; have he2 := HE2.out q)
          | (refine he2.mono ?_; clear he2; rintro e w2 ⟨rfl, q2, rfl⟩))
        go_ret
        exact ⟨rfl, bel_drewN HB1.out _⟩)
end Go.Proofs.YtibndaianhlcaaaDoor
namespace Go.Proofs.YtibndaianhlcaaaDoor
open Go.RowKit Go.Sort Go.Shelf
set_option linter.unusedVariables false
set_option linter.unusedSimpArgs false

set_option maxRecDepth 100000 in
set_option maxHeartbeats 1000000 in
theorem sameUnits_any {w : World} {B : Nat} {A A' : Option Addr} {n n' c c' : Nat} {us vs : List SV} (h : UnitsAt w B A n c us) (h' : UnitsAt w B A' n' c' vs) (hB : B ≤ w.heap.size) :
    Calls Tryd.prog 29 #[.slice A n c, .slice A' n' c'] w fun e w' => e = .returned (.bool (decide (us.map SV.srv = vs.map SV.srv))) ∧ Below w.heap.size w w' := by
  obtain ⟨L, hL⟩ : ∃ L, L = us.map SV.srv := ⟨_, rfl⟩
  obtain ⟨M, hM⟩ : ∃ M, M = vs.map SV.srv := ⟨_, rfl⟩
  rw [← hL, ← hM]
  have hLn : L.length = n := by rw [hL, List.length_map, h.len]
  have hMn : M.length = n' := by rw [hM, List.length_map, h'.len]
  have hn62 : n ≤ 9223372036854775807 := by have h1 := h.slc.le; have h2 := h.slc.cmax; unfold maxLen at h2; omega
  have H := Lib.hid h
  have H' := Lib.hid h'
  have HL := Lib.hid hL
  have HM := Lib.hid hM
  have HLN := Lib.hid hLn
  have HMN := Lib.hid hMn
  have HB := Lib.hid hB
  by_cases hne : n = n'
  case neg =>
    have HX := Lib.hid (show decide (L = M) = false from decide_eq_false (fun e => hne (by rw [← hLn, ← hMn, e])))
    have hk : ((n : Int) != (n' : Int)) = true := by simp; omega
    clear h h' hL hM hLn hMn hB
    go_enter Tryd.func29, Tryd.ntmps29
    go_wp2
    go_ret
    exact ⟨by rw [HX.out]; rfl, Below.refl _ _⟩
  subst hne
  clear h h' hL hM hLn hMn hB
  go_enter Tryd.func29, Tryd.ntmps29
  go_wp2
  go_loopw [5, 6] (fun i _ wr => ∃ k : Nat, k ≤ n ∧ i = .int .i64 (k : Int) ∧ Aside (L.take k = M.take k) ∧ Aside (Below w.heap.size w wr)) (fun i _ _ => n - (intOf i).toNat)
  case atStart => exact ⟨0, Nat.zero_le _, rfl, rfl, Below.refl _ _⟩
  case round =>
    obtain ⟨k, hk, rfl, hto, hb⟩ := hrel
    by_cases hlt : k < n
    · obtain ⟨g, off, rfl, hgB, hkl, c0, c1, c2, c3, p1, p2⟩ := (H.out.below (hb.out.mono HB.out)).at_ hlt
      obtain ⟨g', off', rfl, hgB', hkl', d0, d1, d2, d3, q1, q2⟩ := (H'.out.below (hb.out.mono HB.out)).at_ hlt
      have hkL : k < L.length := by rw [HLN.out]; exact hlt
      have hkM : k < M.length := by rw [HMN.out]; exact hlt
      have e1 : L[k] = us[k].srv := by have := HL.out; subst this; simp
      have e2 : M[k] = vs[k].srv := by have := HM.out; subst this; simp
      have HNE := Lib.hid (fun (e : L[k] ≠ M[k]) => take_ne hkL hkM e)
      have HEQ := Lib.hid (fun (e : L[k] = M[k]) => take_more hto.out hkL hkM e)
      rw [e1, e2] at HNE HEQ
      clear e1 e2
      generalize us[k] = x at *
      generalize vs[k] = y at *
      have hbd := hb.out.size
      have hs := sameUnit_any (w := wr.drew) x y p1.drew p2.drew q1.drew q2.drew (Nat.le_trans HB.out hb.out.size)
      generalize hxd : decide (x.srv = y.srv) = d at *
      obtain ⟨an, asx, ar, aA, an1, ac1, aa, aA2, an2, ac2⟩ := x
      obtain ⟨bn, bsx, br, bA, bn1, bc1, ba, bA2, bn2, bc2⟩ := y
      unfold svArr at hs
      simp only at c0 c1 c2 c3 d0 d1 d2 d3 hs
      clear p1 p2 q1 q2 hgB hgB'
      cases d with
      | false =>
        have HX := Lib.hid (show decide (L = M) = false from decide_eq_false (HNE.out (of_decide_eq_false hxd)))
        clear hxd
        go_wp2_with (fail)
        refine region_tail 8 (by kernel_rfl) (by kernel_rfl) ?_
        simp only [List.take_succ_cons, List.take_zero, List.drop_succ_cons, List.drop_zero]
        repeat still_step
        refine wpStill_nil ?_
        go_wp2_with (go_at_call 50; refine hs.mono ?_; clear hs; rintro e9 w9 ⟨rfl, hb9⟩; have HB9 := Lib.hid (hb.out.trans (((Below.refl _ wr).drew.trans hb9).mono hb.out.size)); clear hb9)
        go_ret
        exact ⟨by rw [HX.out]; rfl, HB9.out⟩
      | true =>
        have HT := Lib.hid (HEQ.out (of_decide_eq_true hxd))
        clear hxd
        go_wp2_with (fail)
        refine region_tail 8 (by kernel_rfl) (by kernel_rfl) ?_
        simp only [List.take_succ_cons, List.take_zero, List.drop_succ_cons, List.drop_zero]
        repeat still_step
        refine wpStill_nil ?_
        go_wp2_with (go_at_call 50; refine hs.mono ?_; clear hs; rintro e9 w9 ⟨rfl, hb9⟩; have HB9 := Lib.hid (hb.out.trans (((Below.refl _ wr).drew.trans hb9).mono hb.out.size)); clear hb9)
        exact ⟨⟨k + 1, by omega, by go_num, HT.out, HB9.out⟩, by simp [intOf]; omega⟩
    · obtain rfl : k = n := by omega
      have HX := Lib.hid (show decide (L = M) = true from decide_eq_true (take_whole hto.out HLN.out HMN.out))
      go_wp2
      go_ret
      exact ⟨by rw [HX.out]; rfl, hb.out⟩
/-- What is observed, as memory has it. -/
structure OV where
  A : Option Addr
  n : Nat
  c : Nat
  es : List EV
  A2 : Option Addr
  n2 : Nat
  c2 : Nat
  users : List Txt
  A3 : Option Addr
  n3 : Nat
  c3 : Nat
  us : List SV
def ovArr (o : OV) : Array Value := #[.slice o.A o.n o.c, .slice o.A2 o.n2 o.c2, .slice o.A3 o.n3 o.c3]
structure ObsAt (w : World) (B : Nat) (o : OV) : Prop where
  files : EntsAt w B o.A o.n o.c o.es
  users : Slc w B 1 o.A2 o.n2 o.c2 (o.users.map encStr)
  units : UnitsAt w B o.A3 o.n3 o.c3 o.us
theorem ObsAt.below {w w' : World} {B : Nat} {o : OV} (h : ObsAt w B o) (hb : Below B w w') : ObsAt w' B o := ⟨h.files.below hb, h.users.below hb, h.units.below hb⟩
def sameO (a b : OV) : Bool := entsEq (a.es.map EV.ent) (b.es.map EV.ent) && decide (a.users = b.users) && decide (a.us.map SV.srv = b.us.map SV.srv)
theorem sameO_iff (a b : OV) : sameO a b = true ↔ a.es.map EV.ent = b.es.map EV.ent ∧ a.users = b.users ∧ a.us.map SV.srv = b.us.map SV.srv := by
  unfold sameO
  rw [Bool.and_eq_true, Bool.and_eq_true, entsEq_iff, decide_eq_true_iff, decide_eq_true_iff, and_assoc]
set_option maxRecDepth 100000 in
set_option maxHeartbeats 1000000 in
theorem same20_any {w : World} {B : Nat} {a b : OV} (ha : ObsAt w B a) (hb : ObsAt w B b) (hB : B ≤ w.heap.size) :
    Calls Tryd.prog 12 #[.agg (ovArr a), .agg (ovArr b)] w fun e w' => e = .returned (.bool (sameO a b)) ∧ Below w.heap.size w w' := by
  unfold ovArr sameO
  obtain ⟨A, n, c, es, A2, n2, c2, us, A3, n3, c3, vs⟩ := a
  obtain ⟨A', n', c', es', A2', n2', c2', us', A3', n3', c3', vs'⟩ := b
  obtain ⟨a1, a2, a3⟩ := ha
  obtain ⟨b1, b2, b3⟩ := hb
  simp only at a1 a2 a3 b1 b2 b3 ⊢
  have hb1 : Below w.heap.size w ((w.alloc (.cells #[.slice A n c, .slice A2 n2 c2, .slice A3 n3 c3] 38)).alloc (.cells #[.slice A' n' c', .slice A2' n2' c2', .slice A3' n3' c3'] 38)) := ((Below.refl _ w).alloc (Nat.le_refl _) _).alloc (by simp) _
  have h1 := refSame_any (a1.below (hb1.mono hB)) (b1.below (hb1.mono hB))
  have h2 : ∀ q, _ := fun q => sameTexts_any (a2.below (bel_drewN (hb1.mono hB) q)) (b2.below (bel_drewN (hb1.mono hB) q))
  have h3 : ∀ q, _ := fun q => sameUnits_any (a3.below (bel_drewN (hb1.mono hB) q)) (b3.below (bel_drewN (hb1.mono hB) q)) (Nat.le_trans hB (bel_drewN hb1 q).size)
  have HB1 := Lib.hid hb1
  have H2 := Lib.hid h2
  have H3 := Lib.hid h3
  clear a1 a2 a3 b1 b2 b3 hb1 h2 h3
  generalize entsEq (es.map EV.ent) (es'.map EV.ent) = d1 at *
  generalize decide (us = us') = d2 at *
  generalize decide (vs.map SV.srv = vs'.map SV.srv) = d3 at *
  cases d1 <;> cases d2 <;> (
    go_enter Tryd.func12, Tryd.ntmps12
    go_wp2_with (first
      | (go_at_call 27; refine h1.mono ?_; clear h1; rintro e w1 ⟨rfl, q, rfl⟩; have h2 := H2.out q)
      | (go_at_call 28; refine h2.mono ?_; clear h2; rintro e w2 ⟨rfl, q2, rfl⟩; have h3 := H3.out (q + q2))
      | (go_at_call 29; refine h3.mono ?_; clear h3; rintro e w3 ⟨rfl, hb3⟩))
    go_ret
    first
      | exact ⟨rfl, bel_drewN HB1.out _⟩
      | exact ⟨by simp, HB1.out.trans (((bel_drewN (Below.refl _ _) _).trans hb3).mono HB1.out.size)⟩)
end Go.Proofs.YtibndaianhlcaaaDoor
