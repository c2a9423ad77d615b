/- activate.To: a machine is led to a system. bootjacklaw21.led: a machine behind any acts. slices.EqualFunc at entries and units; activate.Meets. -/
import Derived.Test.YtibndaianhlcaaaGreatDoorPart29
import Derived.Test.YtibndaianhlcaaaGreatDoorPart30
import Derived.Test.YtibndaianhlcaaaGreatDoorPart19
import Derived.Test.YtibndaianhlcaaaGreatDoorPart18
namespace Go.Proofs.YtibndaianhlcaaaGreatDoor
open Go.RowKit Go.Sort Go.Shelf
set_option linter.unusedVariables false
set_option linter.unusedSimpArgs false

/-- Names that memory can hold. -/
structure NamesM (s : Mach) : Prop where
  files : ∀ x ∈ s.files, x.path.length ≤ 1000000000
  users : ∀ n ∈ s.users, n.length ≤ 1000000000
  units : ∀ u ∈ s.units, u.name.length ≤ 1000000000
structure NamesP (a : ActP) : Prop where
  name : a.name.length ≤ 1000000000
  path : a.file.path.length ≤ 1000000000
  unit : a.unit.name.length ≤ 1000000000
theorem names_ite {c : Prop} [Decidable c] {x y : Mach × Int} (h1 : NamesM x.1) (h2 : NamesM y.1) : NamesM (if c then x else y).1 := by
  split
  · exact h1
  · exact h2
theorem doM_names {s : Mach} (h : NamesM s) {a : ActP} (ha : NamesP a) : NamesM (doM s a).1 := by
  obtain ⟨h1, h2, h3⟩ := h
  unfold doM doStop doFile doUser doStart
  repeat' first
    | apply names_ite
    | exact ⟨h1, h2, h3⟩
    | exact ⟨h1, h2, fun u hu => h3 u (List.mem_of_mem_eraseIdx hu)⟩
    | exact ⟨fun x hx => h1 x (List.mem_filter.1 hx).1, h2, h3⟩
    | exact ⟨h1, fun x hx => h2 x (List.mem_filter.1 hx).1, h3⟩
    | exact ⟨fun x hx => by rcases List.mem_or_eq_of_mem_set hx with h | rfl; exact h1 x h; exact ha.path, h2, h3⟩
    | exact ⟨fun x hx => by rcases mem_ins hx with h | rfl; exact h1 x h; exact ha.path, h2, h3⟩
    | exact ⟨h1, fun x hx => by rcases mem_ins hx with h | rfl; exact h2 x h; exact ha.name, h3⟩
    | exact ⟨h1, h2, fun u hu => by rcases List.mem_append.1 hu with h | h; exact h3 u h; rw [List.mem_singleton.1 h]; exact ha.unit⟩
theorem runM_names : ∀ {l : List ActP} {s : Mach}, NamesM s → (∀ a ∈ l, NamesP a) → NamesM (runM s l).1
  | [], s, h, _ => h
  | a :: l, s, h, hl => by
    have h1 := doM_names h (hl a List.mem_cons_self)
    unfold runM
    split
    · exact runM_names h1 fun x hx => hl x (List.mem_cons_of_mem _ hx)
    · exact h1
theorem names_new : NamesM newM := ⟨(fun x h => by cases h), (fun x h => by cases h), (fun x h => by cases h)⟩
/-- A step whose texts memory can hold. -/
structure PlainS (a : ActP) : Prop where
  name : a.name.length ≤ 1000000000
  path : a.file.path.length ≤ 1000000000
  data : a.file.data.length ≤ 1000000000
  start : a.unit.start.length ≤ 1000000000
  texts : ∀ t ∈ a.unit.name :: (a.unit.req ++ a.unit.aft), t.length ≤ 1000000000
  lens : a.unit.req.length ≤ 1000000000 ∧ a.unit.aft.length ≤ 1000000000
theorem PlainS.names {a : ActP} (h : PlainS a) : NamesP a := ⟨h.name, h.path, h.texts _ List.mem_cons_self⟩
theorem small_of {W : World} {B : Nat} {a : AV} (h : ActAt W B a) (hp : PlainS a.act) : SmallA a := by
  obtain ⟨k, nm, ⟨fp, fk, fd, fA, fn, fc⟩, ⟨un, us, ur, uA, u1, uc, ua, uB, u2, ud⟩⟩ := a
  have e1 : fd.length = fn := by have := h.data.len; simpa using this
  have e2 : ur.length = u1 := by have := h.req.len; simpa using this
  have e3 : ua.length = u2 := by have := h.aft.len; simpa using this
  have d := hp.data
  have l := hp.lens
  simp only [AV.act, EV.ent, SV.srv] at d l
  exact ⟨⟨by show fn ≤ _; omega, by show u1 ≤ _; omega, by show u2 ≤ _; omega⟩, hp.name, hp.path, hp.start, hp.texts⟩
theorem plain_name (k : Int) {n : Txt} (h : n.length ≤ 1000000000) : PlainS ⟨k, n, ent0, srv0⟩ := ⟨h, by show ([] : Txt).length ≤ _; simp, by show ([] : Txt).length ≤ _; simp, by show ([] : Txt).length ≤ _; simp, (fun t ht => by rcases List.mem_cons.1 ht with h | h; rw [h]; show ([] : Txt).length ≤ _; simp; cases h), by show ([] : List Txt).length ≤ _ ∧ ([] : List Txt).length ≤ _; simp⟩
/-- The texts of a system that is asked for. -/
structure SmallS (s : SysP) : Prop where
  files : ∀ x ∈ s.files, x.path.length ≤ 1048576 ∧ x.data.length ≤ 1048576
  users : ∀ n ∈ s.users, n.length ≤ 1048576
  units : ∀ u ∈ s.units, u.name.length ≤ 1048576 ∧ u.start.length ≤ 1048576 ∧ (∀ t ∈ u.req ++ u.aft, t.length ≤ 1048576) ∧ u.req.length ≤ 1048576 ∧ u.aft.length ≤ 1048576
theorem acts_plain {m : Mach} (hm : NamesM m) {s : SysP} (hs : SmallS s) : ∀ a ∈ actsS m.sys s, PlainS a := by
  intro a ha
  unfold actsS Mach.sys at ha
  simp only [List.mem_append] at ha
  rcases ha with ha | ha | ha | ha | ha | ha
  · obtain ⟨u, hu, rfl⟩ := List.mem_map.1 ha
    exact plain_name 1 (hm.units u (List.mem_of_mem_drop (List.mem_reverse.1 hu)))
  · obtain ⟨x, hx, rfl⟩ := List.mem_map.1 ha
    exact plain_name 2 (hm.files x (List.mem_filter.1 hx).1)
  · obtain ⟨x, hx, rfl⟩ := List.mem_map.1 ha
    exact plain_name 3 (hm.users x (List.mem_filter.1 hx).1)
  · obtain ⟨x, hx, rfl⟩ := List.mem_map.1 ha
    obtain ⟨e1, e2⟩ := hs.files x (List.mem_filter.1 hx).1
    exact ⟨by show x.path.length ≤ _; omega, by show x.path.length ≤ _; omega, by show x.data.length ≤ _; omega, by show ([] : Txt).length ≤ _; simp, (fun t ht => by rcases List.mem_cons.1 ht with h | h; rw [h]; show ([] : Txt).length ≤ _; simp; cases h), by show ([] : List Txt).length ≤ _ ∧ ([] : List Txt).length ≤ _; simp⟩
  · obtain ⟨x, hx, rfl⟩ := List.mem_map.1 ha
    exact plain_name 5 (Nat.le_trans (hs.users x (List.mem_filter.1 hx).1) (by decide))
  · obtain ⟨u, hu, rfl⟩ := List.mem_map.1 ha
    obtain ⟨e1, e2, e3, e4, e5⟩ := hs.units u (List.mem_of_mem_drop hu)
    exact ⟨by show u.name.length ≤ _; omega, by show ([] : Txt).length ≤ _; simp, by show ([] : Txt).length ≤ _; simp, by show u.start.length ≤ _; omega, (fun t ht => by rcases List.mem_cons.1 ht with h | h; rw [h]; show u.name.length ≤ _; omega; exact Nat.le_trans (e3 t h) (by decide)), by show u.req.length ≤ _ ∧ u.aft.length ≤ _; omega⟩
theorem SmallO.sys {w : World} {B : Nat} {o : OV} (h : SmallO o) (ho : ObsAt w B o) : SmallS (sysO o) := by
  refine ⟨fun x hx => ?_, h.users, fun u hu => ?_⟩
  · obtain ⟨e, he, rfl⟩ := List.mem_map.1 hx
    exact h.ents e he
  · obtain ⟨v, hv, rfl⟩ := List.mem_map.1 hu
    have s := h.units v hv
    have l1 := (ho.units.req v hv).len
    have l2 := (ho.units.aft v hv).len
    have n1 := s.n
    have n2 := s.n2
    simp at l1 l2
    exact ⟨s.name, s.start, s.texts, by show v.req.length ≤ _; omega, by show v.aft.length ≤ _; omega⟩
theorem toM_names {m : Mach} (hm : NamesM m) {s : SysP} (hs : SmallS s) : NamesM (toM m s).1 := by
  unfold toM
  split
  · exact runM_names hm fun a ha => (acts_plain hm hs a ha).names
  · exact hm
theorem ObsAt.more3 {w : World} {B B' : Nat} {o : OV} (h : ObsAt w B o) (hB : B ≤ B') : ObsAt w B' o :=
  ⟨⟨h.files.slc.more hB, h.files.len, fun e he => (h.files.data e he).more hB⟩, h.users.more hB, ⟨h.units.slc.more hB, h.units.len, fun u hu => (h.units.req u hu).more hB, fun u hu => (h.units.aft u hu).more hB⟩⟩
theorem obs_counts {w w' : World} {s : Mach} {A : Option Addr} {n c : Nat} {es : List EV} {A2 : Option Addr} {n2 c2 : Nat} {A3 : Option Addr} {n3 c3 : Nat} {us : List SV} (hg : GoodM s) (h : ObsOut w w' s A n c es A2 n2 c2 A3 n3 c3 us) : n ≤ 1048576 ∧ n2 ≤ 1048576 ∧ n3 ≤ 1048576 := by
  have k := h.kept.at_
  have l1 := k.files.len
  have l2 := k.users.len
  have l3 := k.units.len
  have e1 := congrArg List.length h.ents
  have e3 := congrArg List.length h.srvs
  simp at l1 l2 l3 e1 e3
  have := hg.nf
  have := hg.nu
  have := hg.nn
  omega
theorem sys_seen {w w' : World} {s : Mach} {A : Option Addr} {n c : Nat} {es : List EV} {A2 : Option Addr} {n2 c2 : Nat} {A3 : Option Addr} {n3 c3 : Nat} {us : List SV} (h : ObsOut w w' s A n c es A2 n2 c2 A3 n3 c3 us) : sysO ⟨A, n, c, es, A2, n2, c2, s.users, A3, n3, c3, us⟩ = s.sys := by
  unfold sysO Mach.sys
  rw [h.ents, h.srvs]
theorem acts_kept {w w' : World} {A : Option Addr} {n c : Nat} {l : List AV} (h : ActsOut w w' A n c l) : ActsK w' (fun k => w.heap.size ≤ k ∧ k < w'.heap.size) A n c l :=
  ⟨h.at_, fun _ => h.row, fun a ha _ x hx => h.out a ha x (.inl hx), fun a ha _ x hx => h.out a ha x (.inr (.inl hx)), fun a ha _ x hx => h.out a ha x (.inr (.inr hx))⟩
/-- What To gives. -/
def ToPost (w : World) (B : Nat) (W : World) (F : Nat → Prop) (g : Nat) (r : Mach × Int) : Ending → World → Prop := fun e w' => e = .returned (.int .i64 r.2) ∧ ∃ F', MRun w B w' F' g r.1 ∧ Step W w' F F'
set_option maxRecDepth 100000 in
set_option maxHeartbeats 4000000 in
theorem to21_any {w W : World} {B g : Nat} {F : Nat → Prop} {m : Mach} (h : MRun w B W F g m) (hm : NamesM m) {C : Nat} {o : OV} (ho : ObsAt W C o) (hC : C ≤ W.heap.size) (hs : SmallO o) :
    Calls Tryz.prog 27 #[.pointer (some ⟨g, 0, none⟩), .agg (ovArr o)] W (ToPost w B W F g (toM m (sysO o))) := by
  obtain ⟨W0, hW0⟩ : ∃ W0, W0 = W.alloc (.cells (ovArr o) 26) := ⟨_, rfl⟩
  have hb0 : Below W.heap.size W W0 := by rw [hW0]; exact bel_new _ _
  have hG0 : Blk W0 W.heap.size 26 (ovArr o) := by rw [hW0]; exact Blk.new _ _ _
  have hr := right21_any (ho.below (hb0.mono hC)) (Nat.le_trans hC hb0.size) hs
  have HSS := Lib.hid (hs.sys ho)
  have H := Lib.hid h
  have HM := Lib.hid hm
  have HO := Lib.hid ho
  have HC := Lib.hid hC
  have HS := Lib.hid hs
  have HK := Lib.hid (fun (W' : World) (hW : Below W0.heap.size W0 W') => hG0.below hW hG0.lt)
  have HB0 := Lib.hid hb0
  rw [hW0] at hr
  obtain ⟨p, hp⟩ : ∃ p, p = sysO o := ⟨_, rfl⟩
  have HPS := Lib.hid hp
  rw [← hp] at hr ⊢
  obtain ⟨A, n, c, es, A2, n2, c2, us, A3, n3, c3, vs⟩ := o
  unfold ovArr at hr HK hW0 ⊢
  simp only at hr HK hW0 ⊢
  have HW0 := Lib.hid hW0
  clear h hm ho hC hs hb0 hG0 hW0 hp
  cases hrt : rightS p with
  | false =>
    have HX := Lib.hid (show toM m p = (m, 70) by unfold toM; rw [hrt]; rfl)
    rw [hrt] at hr
    clear hrt
    go_enter Tryz.func27, Tryz.ntmps27
    go_wp2_with (go_at_call 15; refine hr.mono ?_; clear hr; rintro e2 w2 ⟨rfl, hb2⟩; rw [← HW0.out] at hb2)
    go_ret
    have hb := HB0.out.trans (hb2.mono HB0.out.size)
    unfold ToPost
    rw [HX.out]
    exact ⟨rfl, F, H.out.below hb, Step.of_below hb F⟩
  | true =>
    have HX := Lib.hid (show toM m p = ((runM m (actsS m.sys p)).1, (runM m (actsS m.sys p)).2.2) by unfold toM; rw [hrt]; rfl)
    have HAR := Lib.hid (show actsR m.sys p = actsS m.sys p by unfold actsR; rw [hrt]; rfl)
    rw [hrt] at hr
    clear hrt
    obtain ⟨r, hrr⟩ : ∃ r, r = runM m (actsS m.sys p) := ⟨_, rfl⟩
    rw [← hrr] at HX
    obtain ⟨t9, k9, z9⟩ := r
    have HR := Lib.hid hrr
    clear hrr
    go_enter Tryz.func27, Tryz.ntmps27
    go_wp2_with (go_at_call 15; refine hr.mono ?_; clear hr; rintro e2 w2 ⟨rfl, hb2⟩; rw [← HW0.out] at hb2; have hb2' := hb2.trans (Below.refl _ w2).drew; have hG2 := HK.out _ hb2'; have hbw := HB0.out.trans (hb2'.mono HB0.out.size); have hse := (H.out.below hbw).seen; have y0 := hG2.cell 0; have y1 := hG2.cell 1; have y2 := hG2.cell 2; simp only [List.getElem?_toArray, List.getElem?_cons_zero, List.getElem?_cons_succ] at y0 y1 y2; have HB2 := Lib.hid hb2'; have HBW := Lib.hid hbw; clear hb2 hb2' hG2 hbw)
    have HYS := Lib.hid (fun (W' : World) (h9 : Blk W' W.heap.size 26 #[.slice A n c, .slice A2 n2 c2, .slice A3 n3 c3]) => show W'.cell? ⟨W.heap.size, 0, none⟩ = some (.slice A n c) ∧ W'.cell? ⟨W.heap.size, 1, none⟩ = some (.slice A2 n2 c2) ∧ W'.cell? ⟨W.heap.size, 2, none⟩ = some (.slice A3 n3 c3) from ⟨h9.cell 0, h9.cell 1, h9.cell 2⟩)
    go_region_held (fun W' => W'.cell? ⟨W.heap.size, 0, none⟩ = some (.slice A n c) ∧ W'.cell? ⟨W.heap.size, 1, none⟩ = some (.slice A2 n2 c2) ∧ W'.cell? ⟨W.heap.size, 2, none⟩ = some (.slice A3 n3 c3)) (first | exact HYS.out _ HY5.out | exact HYS.out _ (HK.out _ HY4.out) | exact HYS.out _ (HK.out _ HY3.out) | exact ⟨y0, y1, y2⟩) (first
      | (go_at_call 25; refine hse.mono ?_; clear hse; rintro e w3 ⟨Ax, nx, cx, ex, Ax2, nx2, cx2, Ax3, nx3, cx3, ux, rfl, ho⟩; have HOB := Lib.hid ho; have HY3 := Lib.hid (HB2.out.trans (ho.bel.mono HB2.out.size)); have hbo := HBW.out.trans (ho.bel.mono HBW.out.size); have hac := acts21_any (o := ⟨Ax, nx, cx, ex, Ax2, nx2, cx2, m.users, Ax3, nx3, cx3, ux⟩) ho.kept.at_ ((HO.out.below (hbo.mono HC.out)).more3 (Nat.le_trans HC.out hbo.size)) (Nat.le_refl _) HS.out (obs_counts H.out.good ho); rw [← HPS.out, sys_seen ho, HAR.out] at hac; have HBO := Lib.hid hbo; unfold ovArr at hac; simp only at hac; clear ho hbo)
      | (go_at_call 28; refine hac.mono ?_; clear hac; rintro e w4 ⟨Ay, ny, cy, ly, rfl, hly, hao⟩; have HY4 := Lib.hid (HY3.out.trans (hao.bel.mono HY3.out.size)); have hb4 := HBO.out.trans (hao.bel.mono HBO.out.size); have hrun := run21_any (H.out.below hb4) (acts_kept hao) (fun a ha => small_of (hao.at_.acts a ha) (acts_plain HM.out (HPS.out ▸ HSS.out) a.act (hly ▸ List.mem_map.2 ⟨a, ha, rfl⟩))) (fun k hk hF => by have h1 := H.out.lt k hF; have h2 := HBO.out.size; omega) (fun k hk => hk.2); rw [hly, ← HR.out] at hrun; have HB4 := Lib.hid hb4; clear hao hly hb4)
      | (go_at_call 22; refine hrun.mono ?_; clear hrun; rintro e w5 ⟨rfl, F', h5, st5⟩; have HR5 := Lib.hid (And.intro h5 st5); have HY5 := Lib.hid ((HK.out _ HY4.out).step st5 (fun hF => Nat.lt_irrefl _ (H.out.lt _ hF))); clear h5 st5))
    go_wp2_with (fail)
    go_ret
    unfold ToPost
    rw [HX.out]
    exact ⟨rfl, F', HR5.out.1, (Step.of_below HB4.out F).trans HR5.out.2⟩
end Go.Proofs.YtibndaianhlcaaaGreatDoor
namespace Go.Proofs.YtibndaianhlcaaaGreatDoor
open Go.RowKit Go.Sort Go.Shelf
set_option linter.unusedVariables false
set_option linter.unusedSimpArgs false

def ledM (l : List ActP) : Mach := l.foldl (fun s a => (doM s a).1) newM
theorem led_succ (l : List ActP) {k : Nat} (hk : k < l.length) : ledM (l.take (k + 1)) = (doM (ledM (l.take k)) l[k]).1 := by
  unfold ledM
  rw [List.take_succ_eq_append_getElem hk, List.foldl_append]
  rfl
theorem plan_none (s : Mach) (a : ActP) (h : s.plan = []) : (doM s a).1.plan = [] := by
  have h0 : ∀ {c : Prop} [Decidable c] {x y : Mach × Int}, x.1.plan = [] → y.1.plan = [] → (if c then x else y).1.plan = [] := fun h1 h2 => by split; exact h1; exact h2
  unfold doM doStop doFile doUser doStart
  repeat' first
    | apply h0
    | exact h
    | (show s.plan.tail = []; rw [h]; rfl)
theorem led_plan : ∀ (l : List ActP) (s : Mach), s.plan = [] → (l.foldl (fun s a => (doM s a).1) s).plan = []
  | [], s, h => h
  | a :: l, s, h => led_plan l _ (plan_none s a h)
theorem led_names : ∀ (l : List ActP) (s : Mach), NamesM s → (∀ a ∈ l, NamesP a) → NamesM (l.foldl (fun s a => (doM s a).1) s)
  | [], s, h, _ => h
  | a :: l, s, h, hl => led_names l _ (doM_names h (hl a List.mem_cons_self)) fun x hx => hl x (List.mem_cons_of_mem _ hx)
theorem SmallA.names {a : AV} (h : SmallA a) : NamesP a.act := ⟨h.name, h.path, h.texts _ List.mem_cons_self⟩
set_option maxRecDepth 100000 in
set_option maxHeartbeats 4000000 in
theorem led21_any {w : World} {C : Nat} {A : Option Addr} {n c : Nat} {acts : List AV} (h : ActsAt w C A n c acts) (hC : C ≤ w.heap.size) (hs : ∀ a ∈ acts, SmallA a) :
    Calls Tryz.prog 26 #[.slice A n c] w fun e w' => e = .returned (.pointer (some ⟨w.heap.size, 0, none⟩)) ∧ ∃ F B, MRun w B w' F w.heap.size (ledM ((acts.map AV.act).take 60)) := by
  have hnew := new_any w
  have H := Lib.hid h
  have HC := Lib.hid hC
  have HS := Lib.hid hs
  have HL := Lib.hid (show (acts.map AV.act).length = n by rw [List.length_map, h.len])
  have hn62 : n ≤ 9223372036854775807 := by have := h.slc.le; have := h.slc.cmax; unfold maxLen at this; omega
  clear h hC hs
  go_enter Tryz.func26, Tryz.ntmps26
  go_wp2_with (go_at_call 20; refine hnew.mono ?_; clear hnew; rintro e w2 ⟨rfl, hm, hb⟩; have HR0 := Lib.hid (mrun_start hm hb); clear hm hb)
  go_loopw [4] (fun i wr => ∃ k : Nat, k ≤ n ∧ k ≤ 60 ∧ i = .int .i64 (k : Int) ∧ Aside (∃ F, MRun w w2.heap.size wr F w.heap.size (ledM ((acts.map AV.act).take k)))) (fun i _ => n - (intOf i).toNat)
  case atStart => exact ⟨0, Nat.zero_le _, Nat.zero_le _, rfl, _, HR0.out⟩
  case round =>
    obtain ⟨k, hk, hk60, rfl, hrel⟩ := hrel
    obtain ⟨F, hR⟩ := hrel.out
    have hbw := hR.bel
    by_cases hlt : k < n
    · have hd1 : decide ((k : Int) < (n : Int)) = true := decide_eq_true (by omega)
      by_cases hlt60 : k < 60
      · have hd2 : decide ((k : Int) < 60) = true := decide_eq_true (by omega)
        obtain ⟨b, off, rfl, hbB, hl, hcs⟩ := (H.out.below (hbw.mono HC.out)).cells hlt
        have hat := (H.out.acts _ (List.getElem_mem hl)).below (hbw.mono HC.out)
        have hsm := HS.out _ (List.getElem_mem hl)
        have HN := Lib.hid (show ledM ((acts.map AV.act).take (k + 1)) = (doM (ledM ((acts.map AV.act).take k)) acts[k].act).1 by rw [led_succ _ (by rw [HL.out]; exact hlt), List.getElem_map])
        have hap : ActApart F acts[k] := ⟨fun hn9 x hx hF => by obtain ⟨b9, o9, e9, hb9, _⟩ := hat.req.at_ hn9; rw [hx] at e9; rw [Option.some.inj e9] at hF; have h7 : w.heap.size ≤ b9 := hR.low _ hF; have := HC.out; omega, fun hn9 x hx hF => by obtain ⟨b9, o9, e9, hb9, _⟩ := hat.aft.at_ hn9; rw [hx] at e9; rw [Option.some.inj e9] at hF; have h7 : w.heap.size ≤ b9 := hR.low _ hF; have := HC.out; omega⟩
        have HSP := Lib.hid (hat.small hsm)
        generalize acts[k] = a at *
        have hdo := hR.do_ hat (Nat.le_trans HC.out hbw.size) hsm hap
        have HR := Lib.hid hR
        obtain ⟨kind, name, ⟨fp, fk, fd, fA, fn, fc⟩, ⟨nm, st, rq, A1, n1, j1, af, A2, n2, j2⟩⟩ := a
        have c0 : wr.cell? ⟨b, off + k * 9, none⟩ = some (.int .i64 kind) := hcs 0 _ rfl
        have c1 : wr.cell? ⟨b, off + k * 9 + 1, none⟩ = some (.string ⟨name.toArray⟩) := hcs 1 _ rfl
        have c2 : wr.cell? ⟨b, off + k * 9 + 2, none⟩ = some (.string ⟨fp.toArray⟩) := hcs 2 _ rfl
        have c3 : wr.cell? ⟨b, off + k * 9 + 3, none⟩ = some (.int .i64 fk) := hcs 3 _ rfl
        have c4 : wr.cell? ⟨b, off + k * 9 + 4, none⟩ = some (.slice fA fn fc) := hcs 4 _ rfl
        have c5 : wr.cell? ⟨b, off + k * 9 + 5, none⟩ = some (.string ⟨nm.toArray⟩) := hcs 5 _ rfl
        have c6 : wr.cell? ⟨b, off + k * 9 + 6, none⟩ = some (.string ⟨st.toArray⟩) := hcs 6 _ rfl
        have c7 : wr.cell? ⟨b, off + k * 9 + 7, none⟩ = some (.slice A1 n1 j1) := hcs 7 _ rfl
        have c8 : wr.cell? ⟨b, off + k * 9 + 8, none⟩ = some (.slice A2 n2 j2) := hcs 8 _ rfl
        unfold avArr at hdo
        simp only at hdo
        clear hcs hat hsm hap hrel hR hbw
        go_wp2_with (go_at_call 42; refine hdo.mono ?_; clear hdo; intro e6 w6 hq; obtain ⟨rfl, h6, st6⟩ := HR.out.did HSP.out hq; rw [← HN.out] at h6; have H6 := Lib.hid h6; clear hq h6 st6)
        exact ⟨⟨k + 1, by omega, by omega, by go_num, _, H6.out⟩, by simp [intOf]; omega⟩
      · have hk6 : k = 60 := by omega
        have hd2 : decide ((k : Int) < 60) = false := decide_eq_false (by omega)
        have HH := Lib.hid hR
        have HX := Lib.hid (show ledM ((acts.map AV.act).take 60) = ledM ((acts.map AV.act).take k) by rw [hk6])
        clear hrel hR hbw hk6
        go_wp2_with (fail)
        go_ret
        exact ⟨rfl, F, w2.heap.size, HX.out ▸ HH.out⟩
    · obtain rfl : k = n := by omega
      have HH := Lib.hid hR
      have HX := Lib.hid (show ledM ((acts.map AV.act).take 60) = ledM ((acts.map AV.act).take k) from by rw [List.take_of_length_le (by rw [HL.out]; exact hk60), List.take_of_length_le (by rw [HL.out]; exact Nat.le_refl _)])
      clear hrel hR hbw
      go_wp2_with (fail)
      go_ret
      exact ⟨rfl, F, w2.heap.size, HX.out ▸ HH.out⟩
end Go.Proofs.YtibndaianhlcaaaGreatDoor
namespace Go.Proofs.YtibndaianhlcaaaGreatDoor
open Go.RowKit Go.Sort Go.Shelf
set_option linter.unusedVariables false
set_option linter.unusedSimpArgs false

set_option maxRecDepth 100000 in
set_option maxHeartbeats 2000000 in
theorem eqE21_any {w : World} {B B' : Nat} {A A' : Option Addr} {n n' c c' : Nat} {es fs : List EV} (h : EntsAt w B A n c es) (h' : EntsAt w B' A' n' c' fs) (hB : B ≤ w.heap.size) (hB' : B' ≤ w.heap.size) :
    Calls Tryz.prog 47 #[.slice A n c, .slice A' n' c', .func (.func 48) #[] #[]] w fun e w' => e = .returned (.bool (decide (es.map EV.ent = fs.map EV.ent))) ∧ Below w.heap.size w w' := by
  have hn62 : n ≤ 9223372036854775807 := by have := h.slc.le; have := h.slc.cmax; unfold maxLen at this; omega
  have hL : (es.map EV.ent).length = n := by rw [List.length_map, h.len]
  have hL' : (fs.map EV.ent).length = n' := by rw [List.length_map, h'.len]
  have H := Lib.hid h
  have H' := Lib.hid h'
  have HL := Lib.hid hL
  have HL' := Lib.hid hL'
  by_cases hne : n = n'
  case neg =>
    have HX := Lib.hid (show decide (es.map EV.ent = fs.map EV.ent) = false from decide_eq_false (fun e => hne (by rw [← hL, ← hL', e])))
    have hk : ((n : Int) != (n' : Int)) = true := by simp; omega
    clear h h' hL hL'
    go_enter Tryz.func47, Tryz.ntmps47
    go_wp2
    go_ret
    exact ⟨by rw [HX.out]; rfl, Below.refl _ _⟩
  subst hne
  clear h h' hL hL'
  go_enter Tryz.func47, Tryz.ntmps47
  go_wp2_with (fail)
  go_loopw [17] (fun i wr => ∃ k : Nat, k ≤ n ∧ i = .int .i64 (k : Int) ∧ Aside ((es.map EV.ent).take k = (fs.map EV.ent).take k) ∧ Aside (Below w.heap.size w wr)) (fun i _ => n - (intOf i).toNat)
  case atStart => exact ⟨0, Nat.zero_le _, rfl, rfl, Below.refl _ _⟩
  case round =>
    obtain ⟨k, hk, rfl, hto, hb⟩ := hrel
    by_cases hlt : k < n
    · obtain ⟨b, off, rfl, hbB, hl, c0, c1, c2, hS⟩ := (H.out.below (hb.out.mono hB)).at_ hlt
      obtain ⟨b', off', rfl, hbB', hl', d0, d1, d2, hT⟩ := (H'.out.below (hb.out.mono hB')).at_ hlt
      have hkl : k < (es.map EV.ent).length := by rw [HL.out]; exact hlt
      have hkl' : k < (fs.map EV.ent).length := by rw [HL'.out]; exact hlt
      have HNE := Lib.hid (fun (e : ¬ EV.ent es[k] = EV.ent fs[k]) => take_ne hkl hkl' (by rw [List.getElem_map, List.getElem_map]; exact e))
      have HEQ := Lib.hid (fun (e : EV.ent es[k] = EV.ent fs[k]) => take_more hto.out hkl hkl' (by rw [List.getElem_map, List.getElem_map]; exact e))
      obtain ⟨W2, hW2⟩ : ∃ W2, W2 = (wr.alloc (.cells (evArr es[k]) 35)).alloc (.cells (evArr fs[k]) 35) := ⟨_, rfl⟩
      have hb2 : Below wr.heap.size wr W2 := by rw [hW2]; exact (bel_new _ _).alloc (by simp) _
      have hc := same21_any (w := W2) es[k] fs[k] (hS.below (hb2.mono (Nat.le_trans hB hb.out.size))) (hT.below (hb2.mono (Nat.le_trans hB' hb.out.size))) (Nat.le_trans (Nat.le_trans hB hb.out.size) hb2.size) (Nat.le_trans (Nat.le_trans hB' hb.out.size) hb2.size)
      have hbl : b < wr.heap.size := Nat.lt_of_lt_of_le hbB (Nat.le_trans hB hb.out.size)
      have hbl' : b' < wr.heap.size := Nat.lt_of_lt_of_le hbB' (Nat.le_trans hB' hb.out.size)
      have HBF := Lib.hid (hb.out.trans (hb2.mono hb.out.size))
      generalize es[k] = x at *
      generalize fs[k] = y at *
      have HW2 := Lib.hid hW2
      rw [hW2] at hc
      unfold evArr at hc
      cases hsm : decide (EV.ent x = EV.ent y) with
      | true =>
        have HT := Lib.hid (HEQ.out (of_decide_eq_true hsm))
        rw [show decide (x.ent = y.ent) = true from hsm] at hc
        clear hsm HEQ HNE  hT hkl hkl' hb2 hW2
        go_wp2_with (go_at_call 48; refine hc.mono ?_; clear hc; rintro e4 w4 ⟨rfl, hb4⟩; have HB4 := Lib.hid (HBF.out.trans ((show Below W2.heap.size W2 w4 by rw [HW2.out]; exact hb4).mono HBF.out.size)); clear hb4)
        exact ⟨⟨k + 1, by omega, by go_num, HT.out, HB4.out⟩, by simp [intOf]; omega⟩
      | false =>
        have HX := Lib.hid (show decide (es.map EV.ent = fs.map EV.ent) = false from decide_eq_false (HNE.out (of_decide_eq_false hsm)))
        rw [show decide (x.ent = y.ent) = false from hsm] at hc
        clear hsm HEQ HNE  hT hkl hkl' hb2 hW2
        go_wp2_with (go_at_call 48; refine hc.mono ?_; clear hc; rintro e4 w4 ⟨rfl, hb4⟩; have HB4 := Lib.hid (HBF.out.trans ((show Below W2.heap.size W2 w4 by rw [HW2.out]; exact hb4).mono HBF.out.size)); clear hb4)
        go_ret
        exact ⟨by rw [HX.out]; rfl, HB4.out⟩
    · obtain rfl : k = n := by omega
      have HX := Lib.hid (show decide (es.map EV.ent = fs.map EV.ent) = true from decide_eq_true (take_whole hto.out HL.out HL'.out))
      go_wp2_with (fail)
      go_ret
      exact ⟨by rw [HX.out]; rfl, hb.out⟩
set_option maxRecDepth 100000 in
set_option maxHeartbeats 2000000 in
theorem eqU21_any {w : World} {B B' : Nat} {A A' : Option Addr} {n n' c c' : Nat} {es fs : List SV} (h : UnitsAt w B A n c es) (h' : UnitsAt w B' A' n' c' fs) (hB : B ≤ w.heap.size) (hB' : B' ≤ w.heap.size) :
    Calls Tryz.prog 50 #[.slice A n c, .slice A' n' c', .func (.func 51) #[] #[]] w fun e w' => e = .returned (.bool (decide (es.map SV.srv = fs.map SV.srv))) ∧ Below w.heap.size w w' := by
  have hn62 : n ≤ 9223372036854775807 := by have := h.slc.le; have := h.slc.cmax; unfold maxLen at this; omega
  have hL : (es.map SV.srv).length = n := by rw [List.length_map, h.len]
  have hL' : (fs.map SV.srv).length = n' := by rw [List.length_map, h'.len]
  have H := Lib.hid h
  have H' := Lib.hid h'
  have HL := Lib.hid hL
  have HL' := Lib.hid hL'
  by_cases hne : n = n'
  case neg =>
    have HX := Lib.hid (show decide (es.map SV.srv = fs.map SV.srv) = false from decide_eq_false (fun e => hne (by rw [← hL, ← hL', e])))
    have hk : ((n : Int) != (n' : Int)) = true := by simp; omega
    clear h h' hL hL'
    go_enter Tryz.func50, Tryz.ntmps50
    go_wp2
    go_ret
    exact ⟨by rw [HX.out]; rfl, Below.refl _ _⟩
  subst hne
  clear h h' hL hL'
  go_enter Tryz.func50, Tryz.ntmps50
  go_wp2_with (fail)
  go_loopw [17] (fun i wr => ∃ k : Nat, k ≤ n ∧ i = .int .i64 (k : Int) ∧ Aside ((es.map SV.srv).take k = (fs.map SV.srv).take k) ∧ Aside (Below w.heap.size w wr)) (fun i _ => n - (intOf i).toNat)
  case atStart => exact ⟨0, Nat.zero_le _, rfl, rfl, Below.refl _ _⟩
  case round =>
    obtain ⟨k, hk, rfl, hto, hb⟩ := hrel
    by_cases hlt : k < n
    · obtain ⟨b, off, rfl, hbB, hl, c0, c1, c2, c3, hS, hS2⟩ := (H.out.below (hb.out.mono hB)).at_ hlt
      obtain ⟨b', off', rfl, hbB', hl', d0, d1, d2, d3, hT, hT2⟩ := (H'.out.below (hb.out.mono hB')).at_ hlt
      have hkl : k < (es.map SV.srv).length := by rw [HL.out]; exact hlt
      have hkl' : k < (fs.map SV.srv).length := by rw [HL'.out]; exact hlt
      have HNE := Lib.hid (fun (e : ¬ SV.srv es[k] = SV.srv fs[k]) => take_ne hkl hkl' (by rw [List.getElem_map, List.getElem_map]; exact e))
      have HEQ := Lib.hid (fun (e : SV.srv es[k] = SV.srv fs[k]) => take_more hto.out hkl hkl' (by rw [List.getElem_map, List.getElem_map]; exact e))
      obtain ⟨W2, hW2⟩ : ∃ W2, W2 = (wr.alloc (.cells (svArr es[k]) 59)).alloc (.cells (svArr fs[k]) 59) := ⟨_, rfl⟩
      have hb2 : Below wr.heap.size wr W2 := by rw [hW2]; exact (bel_new _ _).alloc (by simp) _
      have hc := alike21_any (w := W2) (B := w.heap.size) es[k] fs[k] ((hS.below (hb2.mono (Nat.le_trans hB hb.out.size))).more hB) ((hS2.below (hb2.mono (Nat.le_trans hB hb.out.size))).more hB) ((hT.below (hb2.mono (Nat.le_trans hB' hb.out.size))).more hB') ((hT2.below (hb2.mono (Nat.le_trans hB' hb.out.size))).more hB') (Nat.le_trans hb.out.size hb2.size)
      have hbl : b < wr.heap.size := Nat.lt_of_lt_of_le hbB (Nat.le_trans hB hb.out.size)
      have hbl' : b' < wr.heap.size := Nat.lt_of_lt_of_le hbB' (Nat.le_trans hB' hb.out.size)
      have HBF := Lib.hid (hb.out.trans (hb2.mono hb.out.size))
      generalize es[k] = x at *
      generalize fs[k] = y at *
      have HW2 := Lib.hid hW2
      rw [hW2] at hc
      unfold svArr at hc
      cases hsm : decide (SV.srv x = SV.srv y) with
      | true =>
        have HT := Lib.hid (HEQ.out (of_decide_eq_true hsm))
        rw [show decide (x.srv = y.srv) = true from hsm] at hc
        clear hsm HEQ HNE hS hS2 hT hT2 hkl hkl' hb2 hW2
        go_wp2_with (go_at_call 51; refine hc.mono ?_; clear hc; rintro e4 w4 ⟨rfl, hb4⟩; have HB4 := Lib.hid (HBF.out.trans ((show Below W2.heap.size W2 w4 by rw [HW2.out]; exact hb4).mono HBF.out.size)); clear hb4)
        exact ⟨⟨k + 1, by omega, by go_num, HT.out, HB4.out⟩, by simp [intOf]; omega⟩
      | false =>
        have HX := Lib.hid (show decide (es.map SV.srv = fs.map SV.srv) = false from decide_eq_false (HNE.out (of_decide_eq_false hsm)))
        rw [show decide (x.srv = y.srv) = false from hsm] at hc
        clear hsm HEQ HNE hS hS2 hT hT2 hkl hkl' hb2 hW2
        go_wp2_with (go_at_call 51; refine hc.mono ?_; clear hc; rintro e4 w4 ⟨rfl, hb4⟩; have HB4 := Lib.hid (HBF.out.trans ((show Below W2.heap.size W2 w4 by rw [HW2.out]; exact hb4).mono HBF.out.size)); clear hb4)
        go_ret
        exact ⟨by rw [HX.out]; rfl, HB4.out⟩
    · obtain rfl : k = n := by omega
      have HX := Lib.hid (show decide (es.map SV.srv = fs.map SV.srv) = true from decide_eq_true (take_whole hto.out HL.out HL'.out))
      go_wp2_with (fail)
      go_ret
      exact ⟨by rw [HX.out]; rfl, hb.out⟩
set_option maxRecDepth 100000 in
set_option maxHeartbeats 1000000 in
theorem meets21_any {w : World} {B : Nat} {a b : OV} (ha : ObsAt w B a) (hb : ObsAt w B b) (hB : B ≤ w.heap.size) :
    Calls Tryz.prog 17 #[.agg (ovArr a), .agg (ovArr b)] w fun e w' => e = .returned (.bool (sameO a b)) ∧ Below w.heap.size w w' := by
  obtain ⟨A, n, c, es, A2, n2, c2, us, A3, n3, c3, vs⟩ := a
  obtain ⟨A', n', c', es', A2', n2', c2', us', A3', n3', c3', vs'⟩ := b
  obtain ⟨a1, a2, a3⟩ := ha
  obtain ⟨b1, b2, b3⟩ := hb
  unfold ovArr sameO
  simp only at a1 a2 a3 b1 b2 b3 ⊢
  obtain ⟨W1, hW1⟩ : ∃ W1, W1 = (w.alloc (.cells #[.slice A n c, .slice A2 n2 c2, .slice A3 n3 c3] 28)).alloc (.cells #[.slice A' n' c', .slice A2' n2' c2', .slice A3' n3' c3'] 26) := ⟨_, rfl⟩
  have hb1 : Below w.heap.size w W1 := by rw [hW1]; exact (bel_new _ _).alloc (by simp) _
  have hG1 : Blk W1 w.heap.size 28 #[.slice A n c, .slice A2 n2 c2, .slice A3 n3 c3] := by rw [hW1]; exact (Blk.new _ _ _).alloc _
  have hG2 : Blk W1 (w.heap.size + 1) 26 #[.slice A' n' c', .slice A2' n2' c2', .slice A3' n3' c3'] := by
    rw [hW1]
    have := Blk.new (w.alloc (.cells #[.slice A n c, .slice A2 n2 c2, .slice A3 n3 c3] 28)) 26 #[.slice A' n' c', .slice A2' n2' c2', .slice A3' n3' c3']
    rwa [World.size_alloc] at this
  have h1 := eqE21_any (a1.below (hb1.mono hB)) (b1.below (hb1.mono hB)) (Nat.le_trans hB hb1.size) (Nat.le_trans hB hb1.size)
  have H2 := Lib.hid (fun (W : World) (hW : Below W1.heap.size W1 W) => eqS_any (a2.below ((hb1.trans (hW.mono hb1.size)).mono hB)) (b2.below ((hb1.trans (hW.mono hb1.size)).mono hB)))
  have H3 := Lib.hid (fun (W : World) (hW : Below W1.heap.size W1 W) => eqU21_any (a3.below ((hb1.trans (hW.mono hb1.size)).mono hB)) (b3.below ((hb1.trans (hW.mono hb1.size)).mono hB)) (Nat.le_trans hB (hb1.trans (hW.mono hb1.size)).size) (Nat.le_trans hB (hb1.trans (hW.mono hb1.size)).size))
  have HK := Lib.hid (fun (W : World) (hW : Below W1.heap.size W1 W) => show W.cell? ⟨w.heap.size, 1, none⟩ = some (.slice A2 n2 c2) ∧ W.cell? ⟨w.heap.size, 2, none⟩ = some (.slice A3 n3 c3) ∧ W.cell? ⟨w.heap.size + 1, 1, none⟩ = some (.slice A2' n2' c2') ∧ W.cell? ⟨w.heap.size + 1, 2, none⟩ = some (.slice A3' n3' c3') from ⟨(hG1.below hW hG1.lt).cell 1, (hG1.below hW hG1.lt).cell 2, (hG2.below hW hG2.lt).cell 1, (hG2.below hW hG2.lt).cell 2⟩)
  have HB1 := Lib.hid hb1
  have HW1 := Lib.hid hW1
  rw [show decide (es.map EV.ent = es'.map EV.ent) = entsEq (es.map EV.ent) (es'.map EV.ent) by rw [Bool.eq_iff_iff, decide_eq_true_iff, entsEq_iff], hW1] at h1
  clear hG1 hG2 hb1 hW1 a1 a2 a3 b1 b2 b3
  generalize entsEq (es.map EV.ent) (es'.map EV.ent) = x1 at *
  generalize decide (us = us') = x2 at *
  generalize decide (vs.map SV.srv = vs'.map SV.srv) = x3 at *
  cases x1 with
  | false =>
    go_enter Tryz.func17, Tryz.ntmps17
    go_wp2_with (go_at_call 47; refine h1.mono ?_; clear h1; rintro e2 w2 ⟨rfl, hb2⟩; rw [← HW1.out] at hb2)
    go_ret
    exact ⟨rfl, HB1.out.trans (hb2.mono HB1.out.size)⟩
  | true =>
    cases x2 with
    | false =>
      go_enter Tryz.func17, Tryz.ntmps17
      go_wp2_with (first
        | (go_at_call 47; refine h1.mono ?_; clear h1; rintro e2 w2 ⟨rfl, hb2⟩; rw [← HW1.out] at hb2; obtain ⟨k1, k2, k3, k4⟩ := HK.out w2 hb2; have h2 := H2.out w2 hb2)
        | (go_at_call 49; refine h2.mono ?_; clear h2; rintro e3 w3 ⟨rfl, q, rfl⟩))
      go_ret
      exact ⟨rfl, bel_drewN (HB1.out.trans (hb2.mono HB1.out.size)) q⟩
    | true =>
      go_enter Tryz.func17, Tryz.ntmps17
      go_wp2_with (first
        | (go_at_call 47; refine h1.mono ?_; clear h1; rintro e2 w2 ⟨rfl, hb2⟩; rw [← HW1.out] at hb2; obtain ⟨k1, k2, k3, k4⟩ := HK.out w2 hb2; have h2 := H2.out w2 hb2)
        | (go_at_call 49; refine h2.mono ?_; clear h2; rintro e3 w3 ⟨rfl, q, rfl⟩; have hb3 := bel_drewN hb2 q; have h3 := H3.out _ hb3)
        | (go_at_call 50; refine h3.mono ?_; clear h3; rintro e4 w4 ⟨rfl, hb4⟩))
      go_ret
      exact ⟨by cases x3 <;> rfl, HB1.out.trans ((hb3.trans (hb4.mono hb3.size)).mono HB1.out.size)⟩
end Go.Proofs.YtibndaianhlcaaaGreatDoor
