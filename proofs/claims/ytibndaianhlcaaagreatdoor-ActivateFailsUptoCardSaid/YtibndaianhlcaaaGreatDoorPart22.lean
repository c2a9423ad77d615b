/- The reference's machine in memory; at, try. The reference of layer 20: try, stop. A region that draws its order, reads what it stores into at its end: loads are taken first, where what they read holds until the last operation. -/
import Derived.Test.YtibndaianhlcaaaGreatDoorPart21
import Derived.Test.YtibndaianhlcaaaGreatDoorPart20
import Derived.Test.YtibndaianhlcaaaGreatDoorPart7
import Derived.Deep.RegionHeld3
namespace Go.Proofs.YtibndaianhlcaaaGreatDoor
open Go.RowKit Go.Sort Go.Shelf
set_option linter.unusedVariables false
set_option linter.unusedSimpArgs false

theorem rowT_txt : RowT 23 9 1 := rowT_of Tryz.underlying23 str_info rfl (by decide) (by decide) (by decide) (by decide)
theorem rowT_ent : RowT 22 35 3 := rowT_of Tryz.underlying22 ent_info rfl (by decide) (by decide) (by decide) (by decide)
theorem rowT_unit : RowT 24 59 4 := rowT_of Tryz.underlying24 unit_info rfl (by decide) (by decide) (by decide) (by decide)
theorem rowT_bool : RowT 41 4 1 := rowT_of Tryz.underlying41 bool_info rfl (by decide) (by decide) (by decide) (by decide)
structure RefV (w : World) (R : Nat → Prop) (r : Nat) (s : Mach) (o : OV) (pA : Option Addr) (pn pc : Nat) : Prop where
  blk : Blk w r 46 #[.slice o.A o.n o.c, .slice o.A2 o.n2 o.c2, .slice o.A3 o.n3 o.c3, .slice pA pn pc]
  out : ¬ R r
  obs : ObsK w R o
  ents : o.es.map EV.ent = s.files
  users : o.users = s.users
  srvs : o.us.map SV.srv = s.units
  plan : Slc w w.heap.size 1 pA pn pc (s.plan.map bl)
  pfoot : 0 < pn → ∀ a, pA = some a → R a.block
def RefAt (w : World) (R : Nat → Prop) (r : Nat) (s : Mach) : Prop := ∃ o pA pn pc, RefV w R r s o pA pn pc
def RefPost (w : World) (R : Nat → Prop) (r : Nat) (res : Mach × Int) : Ending → World → Prop := fun e w' => e = .returned (.int .i64 res.2) ∧ RefAt w' (Fn R w w') r res.1 ∧ Step w w' (fun k => k = r) (fun k => k = r)
section
variable {w w' : World} {R : Nat → Prop} {r : Nat} {s : Mach} {o : OV} {pA : Option Addr} {pn pc : Nat}
theorem RefV.step {F F' : Nat → Prop} (h : RefV w R r s o pA pn pc) (st : Step w w' F F') (hd : ∀ k, R k → ¬ F k) (hr : ¬ F r) : RefV w' R r s o pA pn pc :=
  ⟨h.blk.step st hr, h.out, h.obs.step st hd, h.ents, h.users, h.srvs, (h.plan.apart0 st (fun hn a ha hF => hd _ (h.pfoot hn a ha) hF)).more st.size, h.pfoot⟩
theorem step_below (hb : Below w.heap.size w w') : Step w w' (fun _ => False) (fun _ => False) := ⟨hb.os, hb.tape, hb.output, hb.size, fun k hk _ => hb.block k hk, fun k hk => .inl hk⟩
theorem RefV.below (h : RefV w R r s o pA pn pc) (hb : Below w.heap.size w w') : RefV w' R r s o pA pn pc := h.step (step_below hb) (fun _ _ h => h) (fun h => h)
theorem ObsK.wide {R' : Nat → Prop} (h : ObsK w R o) (hR : ∀ k, R k → R' k) : ObsK w R' o := ⟨h.at_, fun a ha => hR _ (h.files a ha), fun a ha => hR _ (h.users a ha), fun a ha => hR _ (h.units a ha), fun e he a ha => hR _ (h.data e he a ha), fun u hu a ha => hR _ (h.req u hu a ha), fun u hu a ha => hR _ (h.aft u hu a ha)⟩
theorem RefV.wide {R' : Nat → Prop} (h : RefV w R r s o pA pn pc) (hR : ∀ k, R k → R' k) (ho : ¬ R' r) : RefV w R' r s o pA pn pc :=
  ⟨h.blk, ho, h.obs.wide hR, h.ents, h.users, h.srvs, h.plan, fun hn a ha => hR _ (h.pfoot hn a ha)⟩
theorem RefV.fn (h : RefV w R r s o pA pn pc) (w' : World) : ¬ Fn R w w' r := fun hk => by rcases hk with hk | hk; exact h.out hk; have := h.blk.lt; omega
theorem RefV.facts (h : RefV w R r s o pA pn pc) : w.cell? ⟨r, 0, none⟩ = some (.slice o.A o.n o.c) ∧ w.cell? ⟨r, 1, none⟩ = some (.slice o.A2 o.n2 o.c2) ∧ w.cell? ⟨r, 2, none⟩ = some (.slice o.A3 o.n3 o.c3) ∧ w.cell? ⟨r, 3, none⟩ = some (.slice pA pn pc) ∧ ∀ i, w.frozen? ⟨r, i, none⟩ = false := ⟨h.blk.cell 0, h.blk.cell 1, h.blk.cell 2, h.blk.cell 3, h.blk.frozen⟩
theorem RefV.lens (h : RefV w R r s o pA pn pc) : s.files.length = o.n ∧ o.es.length = o.n ∧ s.users.length = o.n2 ∧ s.units.length = o.n3 ∧ o.us.length = o.n3 ∧ s.plan.length = pn := by
  have h1 := h.obs.at_.files.len
  have h2 := h.obs.at_.users.len
  have h3 := h.obs.at_.units.len
  have h4 := h.plan.len
  rw [h.users] at h2
  simp only [List.length_map, Nat.mul_one] at h2 h4
  have e1 := congrArg List.length h.ents
  have e3 := congrArg List.length h.srvs
  rw [List.length_map] at e1 e3
  exact ⟨by omega, h1, h2, by omega, h3, h4⟩
theorem step_set (p : Addr) (v : Value) : Step w (w.setCell p v) (fun k => k = p.block) (fun k => k = p.block) := (Step.refl w (fun k => k = p.block)).setCell (p := p) (.inl rfl) v
/-- What is written anew into one of its cells. -/
theorem RefV.setUnits (h : RefV w R r s o pA pn pc) {A : Option Addr} {n c : Nat} {us : List SV} (hu : UnitsAt w w.heap.size A n c us) (h1 : ∀ a, A = some a → R a.block) (h2 : ∀ u ∈ us, (∀ a, u.A = some a → R a.block) ∧ ∀ a, u.A2 = some a → R a.block) :
    RefV (w.setCell ⟨r, 2, none⟩ (.slice A n c)) R r ⟨s.files, s.users, us.map SV.srv, s.plan⟩ ⟨o.A, o.n, o.c, o.es, o.A2, o.n2, o.c2, o.users, A, n, c, us⟩ pA pn pc := by
  have hd : ∀ k, R k → ¬ k = (⟨r, 2, none⟩ : Addr).block := fun k hk e => h.out (by rw [← show k = r from e]; exact hk)
  have ho : ObsK w R ⟨o.A, o.n, o.c, o.es, o.A2, o.n2, o.c2, o.users, A, n, c, us⟩ := ⟨⟨h.obs.at_.files, h.obs.at_.users, hu⟩, h.obs.files, h.obs.users, h1, h.obs.data, fun u hu => (h2 u hu).1, fun u hu => (h2 u hu).2⟩
  exact ⟨h.blk.set_ 2 _, h.out, ho.step (step_set _ _) hd, h.ents, h.users, rfl, (h.plan.apart0 (step_set _ _) (fun hn a ha hF => hd _ (h.pfoot hn a ha) hF)).more (step_set ⟨r, 2, none⟩ (.slice A n c)).size, h.pfoot⟩
theorem RefV.setUsers (h : RefV w R r s o pA pn pc) {A : Option Addr} {n c : Nat} {l : List Txt} (hu : Slc w w.heap.size 1 A n c (l.map encStr)) (h1 : ∀ a, A = some a → R a.block) :
    RefV (w.setCell ⟨r, 1, none⟩ (.slice A n c)) R r ⟨s.files, l, s.units, s.plan⟩ ⟨o.A, o.n, o.c, o.es, A, n, c, l, o.A3, o.n3, o.c3, o.us⟩ pA pn pc := by
  have hd : ∀ k, R k → ¬ k = (⟨r, 1, none⟩ : Addr).block := fun k hk e => h.out (by rw [← show k = r from e]; exact hk)
  have ho : ObsK w R ⟨o.A, o.n, o.c, o.es, A, n, c, l, o.A3, o.n3, o.c3, o.us⟩ := ⟨⟨h.obs.at_.files, hu, h.obs.at_.units⟩, h.obs.files, h1, h.obs.units, h.obs.data, h.obs.req, h.obs.aft⟩
  exact ⟨h.blk.set_ 1 _, h.out, ho.step (step_set _ _) hd, h.ents, rfl, h.srvs, (h.plan.apart0 (step_set _ _) (fun hn a ha hF => hd _ (h.pfoot hn a ha) hF)).more (step_set ⟨r, 1, none⟩ (.slice A n c)).size, h.pfoot⟩
theorem RefV.setFiles (h : RefV w R r s o pA pn pc) {A : Option Addr} {n c : Nat} {es : List EV} (hu : EntsAt w w.heap.size A n c es) (h1 : ∀ a, A = some a → R a.block) (h2 : ∀ e ∈ es, ∀ a, e.A = some a → R a.block) :
    RefV (w.setCell ⟨r, 0, none⟩ (.slice A n c)) R r ⟨es.map EV.ent, s.users, s.units, s.plan⟩ ⟨A, n, c, es, o.A2, o.n2, o.c2, o.users, o.A3, o.n3, o.c3, o.us⟩ pA pn pc := by
  have hd : ∀ k, R k → ¬ k = (⟨r, 0, none⟩ : Addr).block := fun k hk e => h.out (by rw [← show k = r from e]; exact hk)
  have ho : ObsK w R ⟨A, n, c, es, o.A2, o.n2, o.c2, o.users, o.A3, o.n3, o.c3, o.us⟩ := ⟨⟨hu, h.obs.at_.users, h.obs.at_.units⟩, h1, h.obs.users, h.obs.units, h2, h.obs.req, h.obs.aft⟩
  exact ⟨h.blk.set_ 0 _, h.out, ho.step (step_set _ _) hd, rfl, h.users, h.srvs, (h.plan.apart0 (step_set _ _) (fun hn a ha hF => hd _ (h.pfoot hn a ha) hF)).more (step_set ⟨r, 0, none⟩ (.slice A n c)).size, h.pfoot⟩
theorem RefV.setPlan (h : RefV w R r s o pA pn pc) {A : Option Addr} {n c : Nat} {p : List Bool} (hu : Slc w w.heap.size 1 A n c (p.map bl)) (h1 : 0 < n → ∀ a, A = some a → R a.block) :
    RefV (w.setCell ⟨r, 3, none⟩ (.slice A n c)) R r ⟨s.files, s.users, s.units, p⟩ o A n c := by
  have hd : ∀ k, R k → ¬ k = (⟨r, 3, none⟩ : Addr).block := fun k hk e => h.out (by rw [← show k = r from e]; exact hk)
  exact ⟨h.blk.set_ 3 _, h.out, h.obs.step (step_set _ _) hd, h.ents, h.users, h.srvs, (hu.apart0 (step_set _ _) (fun hn a ha hF => hd _ (h1 hn a ha) hF)).more (step_set ⟨r, 3, none⟩ (.slice A n c)).size, h1⟩
theorem atU_at {l : List Srv} {n : Txt} {k : Nat} (hk : k < l.length) (h1 : l[k].name = n) (h2 : ∀ i (hi : i < l.length), i < k → l[i].name ≠ n) : atU l n = (k : Int) := by
  obtain ⟨e1, e2⟩ := idxU_eq hk h1 h2
  unfold atU
  rw [if_pos e2, e1]
theorem atU_no {l : List Srv} {n : Txt} (h : ∀ i (hi : i < l.length), l[i].name ≠ n) : atU l n = -1 := by
  unfold atU
  rw [if_neg (by rw [hasU_none h]; decide)]
set_option maxRecDepth 100000 in
set_option maxHeartbeats 1000000 in
theorem refAt20_any (h : RefV w R r s o pA pn pc) (name : Txt) :
    Calls Tryz.prog 93 #[.pointer (some ⟨r, 0, none⟩), .string ⟨name.toArray⟩] w fun e w' => e = .returned (.int .i64 (atU s.units name)) ∧ w' = w := by
  have hl := h.lens
  obtain ⟨L, hL⟩ : ∃ L, L = s.units := ⟨_, rfl⟩
  rw [← hL]
  have hLe : L = o.us.map SV.srv := by rw [hL, h.srvs]
  have hLn : L.length = o.n3 := by rw [hL]; exact hl.2.2.2.1
  have HL := Lib.hid hLe
  have HLN := Lib.hid hLn
  have m2 := h.facts.2.2.1
  have hU := h.obs.at_.units
  have hn62 : o.n3 ≤ 9223372036854775807 := by have h1 := hU.slc.le; have h2 := hU.slc.cmax; unfold maxLen at h2; omega
  have HU := Lib.hid hU
  obtain ⟨w0, hw0⟩ : ∃ w0 : World, w0 = w := ⟨_, rfl⟩
  have HW := Lib.hid hw0
  obtain ⟨A, n, c, es, A2, n2, c2, users, A3, n3, c3, us⟩ := o
  simp only at m2 hn62 HU HL HLN
  clear h hl hL hLe hLn hU hw0
  go_enter Tryz.func93, Tryz.ntmps93
  go_wp2
  go_loopw [5] (fun i wr => ∃ k : Nat, k ≤ n3 ∧ i = .int .i64 (k : Int) ∧ wr = w0 ∧ Aside (∀ j (hj : j < L.length), j < k → L[j].name ≠ name)) (fun i _ => n3 - (intOf i).toNat)
  case atStart => exact ⟨0, Nat.zero_le _, rfl, HW.out.symm, fun j _ h => absurd h (Nat.not_lt_zero _)⟩
  case round =>
    obtain ⟨k, hk, rfl, rfl, hno⟩ := hrel
    rw [← HW.out] at m2 HU
    by_cases hlt : k < n3
    · obtain ⟨b, off, rfl, hgB, hkl, c0, c1, c2', c3', p1, p2⟩ := HU.out.at_ hlt
      have hkL : k < L.length := by rw [HLN.out]; exact hlt
      have e1 : L[k] = us[k].srv := by have := HL.out; subst this; simp
      have HHIT := Lib.hid (fun (e : L[k].name = name) => atU_at hkL e (fun i hi hik => hno.out i hi hik))
      have HNEXT := Lib.hid (fun (e : L[k].name ≠ name) => show ∀ j (hj : j < L.length), j < k + 1 → L[j].name ≠ name from fun j hj hjk => by
        rcases Nat.lt_or_ge j k with h | h
        · exact hno.out j hj h
        · obtain rfl : j = k := by omega
          exact e)
      rw [e1] at HHIT HNEXT
      clear e1 c1 c2' c3' p1 p2 hgB
      generalize us[k] = x at *
      have tx : (ByteArray.mk x.name.toArray).toList = x.name := Go.ByteArray.toList_eq _
      have ty : (ByteArray.mk name.toArray).toList = name := Go.ByteArray.toList_eq _
      cases k1 : (x.name == name) with
      | true =>
        have HX := Lib.hid (HHIT.out (show x.name = name by simpa using k1))
        go_wp2
        go_ret
        exact ⟨by rw [HX.out]; rfl, HW.out⟩
      | false =>
        have HX := Lib.hid (HNEXT.out (show x.name ≠ name by simpa using k1))
        go_wp2
        exact ⟨⟨k + 1, by omega, by go_num, by first | rfl | trivial, HX.out⟩, by simp [intOf]; omega⟩
    · obtain rfl : k = n3 := by omega
      have HX := Lib.hid (atU_no (fun i hi => hno.out i hi (by have := HLN.out; omega)))
      go_wp2
      go_ret
      exact ⟨by rw [HX.out]; rfl, HW.out⟩
end
end Go.Proofs.YtibndaianhlcaaaGreatDoor
namespace Go.Proofs.YtibndaianhlcaaaGreatDoor
open Go.RowKit Go.Sort Go.Shelf
set_option linter.unusedVariables false
set_option linter.unusedSimpArgs false

theorem slice_mark_bool (x : Value) (lo hi mx : Option Value) : Instr.slice 41 x lo hi mx = CutS 41 x lo hi mx := rfl
theorem slice_mark_unit (x : Value) (lo hi mx : Option Value) : Instr.slice 24 x lo hi mx = CutS 24 x lo hi mx := rfl
theorem slice_mark_txt (x : Value) (lo hi mx : Option Value) : Instr.slice 23 x lo hi mx = CutS 23 x lo hi mx := rfl
theorem slice_mark_ent (x : Value) (lo hi mx : Option Value) : Instr.slice 22 x lo hi mx = CutS 22 x lo hi mx := rfl
theorem fn_set (F : Nat → Prop) (w w' : World) (p : Addr) (v : Value) : Fn F w (w'.setCell p v) = Fn F w w' := by
  have hsz : (w'.setCell p v).heap.size = w'.heap.size := by simp [World.setCell]
  unfold Fn
  rw [hsz]
theorem step_bel_set {w w' : World} (hb : Below w.heap.size w w') (r i : Nat) (v : Value) : Step w (w'.setCell ⟨r, i, none⟩ v) (fun k => k = r) (fun k => k = r) := (Step.of_below hb (fun k => k = r)).setCell (p := ⟨r, i, none⟩) (.inl rfl) v
theorem own_fn {w w' : World} {R : Nat → Prop} {e : TypeId} {sz : Nat} {A : Option Addr} {n m c : Nat} {xs : List Value} (h : w'.ownsRow w.heap.size e sz (.slice A m c) n xs) : ∀ a, A = some a → Fn R w w' a.block := fun a ha => .inr (own_in h a ha)
section
variable {w w' : World} {R : Nat → Prop} {r : Nat} {s : Mach} {o : OV} {pA : Option Addr} {pn pc : Nat}
def TryPost (w : World) (R : Nat → Prop) (r : Nat) (s : Mach) (o : OV) : Ending → World → Prop := fun e w' => e = .returned (.bool (failsP s.plan)) ∧ (∃ qA qn qc, RefV w' (Fn R w w') r ⟨s.files, s.users, s.units, s.plan.tail⟩ o qA qn qc ∧ qn ≤ 1000000000) ∧ Step w w' (fun k => k = r) (fun k => k = r)
theorem try_end {b : Bool} (h : RefV w R r s o pA pn pc) {w1 : World} (hb : Below w.heap.size w w1) {A1 : Option Addr} {c1 m : Nat} (hm : m ≤ 1000000000) (ho : w1.ownsRow w.heap.size 4 1 (.slice A1 m c1) m (s.plan.tail.map bl)) (hf : failsP s.plan = b) : TryPost w R r s o (.returned (.bool b)) (w1.setCell ⟨r, 3, none⟩ (.slice A1 m c1)) := by
  subst hf
  refine ⟨rfl, ⟨A1, m, c1, ?_, hm⟩, step_bel_set hb r 3 _⟩
  rw [fn_set]
  exact ((h.below hb).wide (fn_wide R w w1) (h.fn w1)).setPlan (own_slc_of ho) (fun _ => own_fn ho)
section
attribute [local go_sem ↓] slice_mark_bool
set_option maxRecDepth 100000 in
set_option maxHeartbeats 1000000 in
theorem refTry20_any (h : RefV w R r s o pA pn pc) (hn : pn ≤ 1000000000) :
    Calls Tryz.prog 94 #[.pointer (some ⟨r, 0, none⟩)] w (TryPost w R r s o) := by
  have hpl := h.lens.2.2.2.2.2
  cases hp : s.plan with
  | nil =>
    have hp0 : pn = 0 := by rw [hp] at hpl; simpa using hpl.symm
    subst hp0
    have m3 := h.facts.2.2.2.1
    have hs : (⟨s.files, s.users, s.units, s.plan.tail⟩ : Mach) = s := by cases s; simp only at hp; subst hp; rfl
    have HX : Hid (TryPost w R r s o (.returned (.bool false)) w) := ⟨by rw [hp]; rfl, ⟨pA, 0, pc, by rw [hs]; exact h.wide (fn_wide R w w) (h.fn w), by omega⟩, Step.refl _ _⟩
    clear h hs hpl
    go_enter Tryz.func94, Tryz.ntmps94
    go_wp2_with (fail)
    go_ret
    exact HX.out
  | cons b p =>
    have hpn : 1 ≤ pn := by rw [hp] at hpl; simp at hpl; omega
    obtain ⟨q, off, hA, hq, hc⟩ := h.plan.at_ (by omega)
    have c0 := hc 0 (.bool b) (by rw [hp]; rfl)
    rw [Nat.add_zero] at c0
    subst hA
    have m3 := h.facts.2.2.2.1
    have mf3 := h.facts.2.2.2.2 3
    have hcut := cut_high rowT_bool (A := some ⟨q, off, none⟩) (n := pn) (c := pc) (k := 1) (z := 1) rfl hpn
    obtain ⟨At, ct, et, ht⟩ := tail_slc h.plan hpn
    have hb0 : Below w.heap.size w (w.alloc (.cells #[] 4)) := (Below.refl _ w).alloc (Nat.le_refl _) _
    obtain ⟨A1, c1, w1, r1, o1, b1, _, hz1⟩ := put_one rowT_bool ht (Nat.le_refl _) (fun u hu => bls_one s.plan u (List.mem_of_mem_drop hu)) (by omega) hb0 (heap_alloc_new w _) (Nat.le_refl _)
    rw [← et] at r1
    have hdr : (s.plan.map bl).drop (1 * 1) = s.plan.tail.map bl := by rw [hp]; rfl
    rw [hdr] at o1
    have HX := Lib.hid (try_end h b1 (b := b) (by omega) o1 (by rw [hp]; rfl))
    have hB1 := h.blk.below b1 h.blk.lt
    have n3 := hB1.cell 3
    have nf3 := hB1.frozen 3
    simp only [List.getElem?_toArray, List.getElem?_cons_zero, List.getElem?_cons_succ] at n3
    have hrl := h.blk.lt
    have hneq : ((pn : Int) == 0) = false := by rw [beq_eq_false_iff_ne]; omega
    have h1p : (0 : Int) < (pn : Int) := by omega
    have HR1 := Lib.hid r1
    clear h hc ht et hb0 o1 b1 hdr hB1 hpl r1 hq hz1
    go_enter Tryz.func94, Tryz.ntmps94
    go_wp2_with (at_builtin; refine wpList_append_run rfl _ _ _ rfl rfl rfl HR1.out ?_; clear HR1)
    go_ret
    exact HX.out
end
theorem units_one (us : List SV) : ∀ v ∈ us.flatMap svCells, v.oneCell' = true := svCells_one us
/-- A unit less. -/
structure StopEnd (w : World) (R : Nat → Prop) (r : Nat) (s : Mach) (w2 : World) (A3 : Option Addr) (n3 c3 i : Nat) (A1 : Option Addr) (c1 : Nat) (w3 : World) (A2 : Option Addr) (c2 : Nat) (w4 : World) : Prop where
  r1 : (Builtin.append_ #[24, 24] 24 #[.slice (some ⟨w2.heap.size, 0, none⟩) 0 0, headG A3 n3 c3 i]).run Tryz.prog (w2.alloc (.cells #[] 59)).drew = .ok (.slice A1 i c1) w3
  r2 : (Builtin.append_ #[24, 24] 24 #[.slice A1 i c1, tailG A3 n3 c3 (i + 1) 4]).run Tryz.prog w3 = .ok (.slice A2 (n3 - 1) c2) w4
  a2 : w2.cell? ⟨r, 2, none⟩ = some (.slice A3 n3 c3)
  a3 : w3.cell? ⟨r, 2, none⟩ = some (.slice A3 n3 c3)
  a4 : w4.cell? ⟨r, 2, none⟩ = some (.slice A3 n3 c3)
  f4 : w4.frozen? ⟨r, 2, none⟩ = false
  post : RefPost w R r (⟨s.files, s.users, s.units.eraseIdx i, s.plan⟩, 0) (.returned (.int .i64 0)) (w4.setCell ⟨r, 2, none⟩ (.slice A2 (n3 - 1) c2))
theorem stop_end {w2 : World} {S : Nat → Prop} (h : RefV w2 S r s o pA pn pc) (hS : ∀ k, S k → Fn R w w2 k) (hst : Step w w2 (fun k => k = r) (fun k => k = r)) (hR : ¬ R r) (hrw : r < w.heap.size) {i : Nat} (hi : i < o.n3) (hn : o.n3 ≤ 1000000) :
    ∃ A1 c1 w3 A2 c2 w4, StopEnd w R r s w2 o.A3 o.n3 o.c3 i A1 c1 w3 A2 c2 w4 := by
  have hU := h.obs.at_.units
  obtain ⟨A1, c1, w3, A2, c2, w4, E⟩ := era_run rowT_unit hU.slc (Nat.le_refl _) (units_one o.us) (by omega) hi
  have h3 := h.below E.bel1
  have h4 := h.below E.bel
  have hf : ∀ k, Fn S w2 w4 k → Fn R w w4 k := fun k hk => by
    have := hst.size
    rcases hk with hk | hk
    · rcases hS k hk with h | h
      · exact .inl h
      · exact .inr ⟨h.1, by have := E.bel.size; omega⟩
    · exact .inr ⟨by omega, hk.2⟩
  have hout : ¬ Fn R w w4 r := fun hk => by rcases hk with hk | hk; exact hR hk; omega
  have hl : (o.us.take i ++ o.us.drop (i + 1)).length = o.n3 - 1 := by rw [List.length_append, List.length_take, List.length_drop, hU.len]; omega
  have ho := E.own
  have hfm := fun k => flatMap_take svCells 4 o.us k (fun x _ => svCells_length x)
  rw [(hfm i).1, (hfm (i + 1)).2, ← List.flatMap_append] at ho
  have hU4 := h4.obs.at_.units
  have hset := ((h4.wide (fn_wide S w2 w4) (h.fn w4)).wide hf hout).setUnits (A := A2) (n := o.n3 - 1) (c := c2) (us := o.us.take i ++ o.us.drop (i + 1)) ⟨own_slc_of ho, hl, fun u hu => hU4.req u (mem_cut hu), fun u hu => hU4.aft u (mem_cut hu)⟩ (fun a ha => hf _ (own_fn E.own a ha)) (fun u hu => ⟨fun a ha => hf _ (.inl (h.obs.req u (mem_cut hu) a ha)), fun a ha => hf _ (.inl (h.obs.aft u (mem_cut hu) a ha))⟩)
  refine ⟨A1, c1, w3, A2, c2, w4, E.r1, E.r2, h.facts.2.2.1, h3.facts.2.2.1, h4.facts.2.2.1, h4.facts.2.2.2.2 2, rfl, ?_, hst.trans (step_bel_set E.bel r 2 _)⟩
  rw [fn_set]
  rw [srvs_erase, h.srvs] at hset
  exact ⟨_, _, _, _, hset⟩
section
attribute [local go_sem ↓] slice_mark_unit
set_option maxRecDepth 100000 in
set_option maxHeartbeats 2000000 in
theorem refStop20_any (h : RefV w R r s o pA pn pc) (hn : pn ≤ 1000000000) (hn3 : o.n3 ≤ 1000000) (name : Txt) :
    Calls Tryz.prog 52 #[.pointer (some ⟨r, 0, none⟩), .string ⟨name.toArray⟩] w (RefPost w R r (doStop s name)) := by
  have ha := refAt20_any h name
  have hl := h.lens
  have hout := h.out
  have hrw := h.blk.lt
  have htry := refTry20_any h hn
  cases hh : hasU s.units name with
  | false =>
    have HX : Hid (RefPost w R r (doStop s name) (.returned (.int .i64 0)) w) := by
      rw [show doStop s name = (s, 0) by unfold doStop; rw [if_pos hh]]
      exact ⟨rfl, ⟨_, _, _, _, h.wide (fn_wide R w w) (h.fn w)⟩, Step.refl _ _⟩
    rw [show atU s.units name = -1 by unfold atU; rw [if_neg (by rw [hh]; decide)]] at ha
    clear h hl hh htry
    go_enter Tryz.func52, Tryz.ntmps52
    go_wp2_with (go_at_call 93; refine ha.mono ?_; clear ha; rintro e w1 ⟨rfl, rfl⟩)
    go_ret
    exact HX.out
  | true =>
    obtain ⟨hi, _⟩ := idxU_at hh
    obtain ⟨i, hix⟩ : ∃ i, i = idxU s.units name := ⟨_, rfl⟩
    rw [show atU s.units name = (idxU s.units name : Int) by unfold atU; rw [if_pos hh], ← hix] at ha
    rw [← hix] at hi
    have hin : i < o.n3 := by omega
    have hneg : ¬ (i : Int) < 0 := by omega
    cases hf : failsP s.plan with
    | true =>
      unfold TryPost at htry
      rw [hf] at htry
      have HX := Lib.hid (show doStop s name = (⟨s.files, s.users, s.units, s.plan.tail⟩, 71) by unfold doStop; rw [if_neg (by rw [hh]; decide), if_pos hf])
      clear h hl hh hf hix hi
      go_enter Tryz.func52, Tryz.ntmps52
      go_wp2_with (first
        | (go_at_call 93; refine ha.mono ?_; clear ha; rintro e w1 ⟨rfl, rfl⟩)
        | (go_at_call 94; refine htry.mono ?_; clear htry; rintro e w2 ⟨rfl, ⟨qA, qn, qc, hv2, -⟩, hst2⟩; have HV2 := Lib.hid hv2; have HS2 := Lib.hid hst2; clear hv2 hst2))
      go_ret
      rw [HX.out]
      exact ⟨rfl, ⟨_, _, _, _, HV2.out⟩, HS2.out⟩
    | false =>
      unfold TryPost at htry
      rw [hf] at htry
      have HX := Lib.hid (show doStop s name = (⟨s.files, s.users, s.units.eraseIdx i, s.plan.tail⟩, 0) by unfold doStop; rw [if_neg (by rw [hh]; decide), if_neg (by rw [hf]; decide), hix])
      have hnc := h.obs.at_.units.slc.le
      have hcl := cut_low rowT_unit (A := o.A3) (n := o.n3) (c := o.c3) (k := i) (z := (i : Int)) rfl (by omega)
      have hch := cut_high rowT_unit (A := o.A3) (n := o.n3) (c := o.c3) (k := i + 1) (z := (i : Int) + 1) (by omega) (by omega)
      have hw1 : IntKind.i64.wrap ((i : Int) + 1) = (i : Int) + 1 := IntWalk.i64_in _ (by omega)
      have HE : Hid (∀ {w2 : World} {qA : Option Addr} {qn qc : Nat}, RefV w2 (Fn R w w2) r ⟨s.files, s.users, s.units, s.plan.tail⟩ o qA qn qc → Step w w2 (fun k => k = r) (fun k => k = r) → ∃ A1 c1 w3 A2 c2 w4, StopEnd w R r ⟨s.files, s.users, s.units, s.plan.tail⟩ w2 o.A3 o.n3 o.c3 i A1 c1 w3 A2 c2 w4) := fun hv hst => stop_end hv (fun k hk => hk) hst hout hrw hin hn3
      obtain ⟨A, n, c, es, A2', n2, c2', users, A3, n3, c3, us⟩ := o
      simp only at hcl hch HE hin hn3 hnc
      clear h hl hh hf hix hi
      go_enter Tryz.func52, Tryz.ntmps52
      go_wp2_with (first
        | (go_at_call 93; refine ha.mono ?_; clear ha; rintro e w1 ⟨rfl, rfl⟩)
        | (go_at_call 94; refine htry.mono ?_; clear htry; rintro e w2 ⟨rfl, ⟨qA, qn, qc, hv2, -⟩, hst2⟩; obtain ⟨A1, c1, w3, A2, c2, w4, E⟩ := HE.out hv2 hst2; have hrw2 : r < w2.heap.size := Nat.lt_of_lt_of_le hrw hst2.size; have HR1 := Lib.hid E.r1; have HR2 := Lib.hid E.r2; have a2 := E.a2; have a3 := E.a3; have a4 := E.a4; have f4 := E.f4; have HP := Lib.hid E.post; clear hv2 hst2 E))
      go_region_law (first
        | (refine step_append_at (by rfl) _ _ _ (by rfl) HR1.out (by with_reducible rfl) (by rfl) (by rfl) (by rfl) ?_)
        | (refine step_append_at (by rfl) _ _ _ (by rfl) HR2.out (by with_reducible rfl) (by rfl) (by rfl) (by rfl) ?_))
      all_goals go_wp2_with (fail)
      all_goals go_ret
      all_goals rw [HX.out]
      all_goals exact HP.out
end
end
end Go.Proofs.YtibndaianhlcaaaGreatDoor
namespace Go.Proofs.YtibndaianhlcaaaGreatDoor
open Go.RowKit
set_option linter.unusedVariables false
set_option linter.unusedSimpArgs false

section
variable {P : Program} {ops : Array Oper} {Q : Exit → Act → World → Prop} {md : Region.Mode} {S : World → Prop} {L : Nat}
/-- Whatever order is picked, S holds behind every operation but the L-th. -/
def wpAnyK (P : Program) (md : Region.Mode) (ops : Array Oper) (Q : Exit → Act → World → Prop) (S : World → Prop) (L : Nat) : Nat → Array Bool → Act → World → Prop
  | 0, listed, a, w => Region.ready md ops listed = [] ∧ Q .normal a w
  | fuel + 1, listed, a, w => (Region.ready md ops listed = [] → Q .normal a w) ∧ ∀ i ∈ Region.ready md ops listed, wpOp P ops Q i (fun a' w' => (i ≠ L → S w') ∧ wpAnyK P md ops Q S L fuel (listed.setIfInBounds i true) a' w') a w
theorem wpAny_of_K : ∀ (fuel : Nat) (listed : Array Bool) (a : Act) (w : World), wpAnyK P md ops Q S L fuel listed a w → wpAny P md ops Q fuel listed a w
  | 0, _, _, _, h => h
  | fuel + 1, _, _, _, h => ⟨h.1, fun i hi => wpOp_mono (fun a' w' h' => wpAny_of_K fuel _ a' w' h'.2) (h.2 i hi)⟩
/-- What has come up has come up behind all that it waits for. -/
def downB (md : Region.Mode) (ops : Array Oper) (listed : Array Bool) : Bool :=
  (List.range ops.size).all fun j => !listed.getD j true || ((ops[j]?).map (·.after.all fun e => !Region.binds md e || listed.getD e.on false)).getD true
/-- Each waits for the one ahead of it. -/
def chainB (md : Region.Mode) (ops : Array Oper) : List Nat → Bool
  | i :: j :: r => (((ops[j]?).map (·.after.any fun e => Region.binds md e && e.on == i)).getD false) && chainB md ops (j :: r)
  | _ => true
theorem down_at {listed : Array Bool} (h : downB md ops listed = true) {j : Nat} {oj : Oper} (hj : ops[j]? = some oj) (hl : listed.getD j true = true) : ∀ e ∈ oj.after, Region.binds md e = true → listed.getD e.on false = true := fun e he hb => by
  have hjs : j < ops.size := (Array.getElem?_eq_some_iff.1 hj).1
  have h1 := List.all_eq_true.1 h j (List.mem_range.2 hjs)
  rw [hl, hj] at h1
  simp only [Bool.not_true, Bool.false_or, Option.map_some, Option.getD_some] at h1
  have h2 := Array.all_eq_true_iff_forall_mem.1 h1 e he
  rw [hb] at h2
  simpa using h2
theorem down_set {listed : Array Bool} (h : downB md ops listed = true) {i : Nat} (hi : i ∈ Region.ready md ops listed) : downB md ops (listed.setIfInBounds i true) = true := by
  obtain ⟨hun, oi, hoi, hall⟩ := mem_ready.1 hi
  unfold downB
  rw [List.all_eq_true]
  intro j hj
  have hjs := List.mem_range.1 hj
  have hoj : ops[j]? = some ops[j] := Array.getElem?_eq_getElem hjs
  rw [hoj]
  simp only [Option.map_some, Option.getD_some, Bool.or_eq_true]
  have up : ∀ k, listed.getD k false = true → (listed.setIfInBounds i true).getD k false = true := fun k hk => by
    by_cases hik : i = k
    · subst hik
      rcases Nat.lt_or_ge i listed.size with h' | h'
      · simp [h']
      · simp [Array.getElem?_eq_none h'] at hk
    · rw [getD_set_ne false hik]; exact hk
  by_cases hji : i = j
  · subst hji
    right
    rw [hoi] at hoj
    rw [← Option.some.inj hoj]
    rw [Array.all_eq_true_iff_forall_mem]
    intro e he
    by_cases hb : Region.binds md e = true
    · rw [up _ (hall e he hb)]; simp
    · simp [hb]
  · by_cases hl : listed.getD j true = true
    · right
      rw [Array.all_eq_true_iff_forall_mem]
      intro e he
      by_cases hb : Region.binds md e = true
      · rw [up _ (down_at h hoj hl e he hb)]; simp
      · simp [hb]
    · left
      rw [getD_set_ne true hji]
      simpa using hl
theorem chain_listed {listed : Array Bool} (hd : downB md ops listed = true) : ∀ (l : List Nat) (i : Nat), chainB md ops (i :: l) = true → (i :: l).getLast? = some L → L ∈ Region.ready md ops listed → i ≠ L → listed.getD i false = true
  | [], i, _, h2, _, h4 => by
    simp at h2
    exact absurd h2 h4
  | j :: r, i, h1, h2, h3, h4 => by
    simp only [chainB, Bool.and_eq_true] at h1
    obtain ⟨h5, h6⟩ := h1
    cases hj : ops[j]? with
    | none => rw [hj] at h5; cases h5
    | some oj =>
      rw [hj] at h5
      simp only [Option.map_some, Option.getD_some] at h5
      obtain ⟨e, he, hb⟩ : ∃ e ∈ oj.after, (Region.binds md e && e.on == i) = true := by
        obtain ⟨k, hk, h9⟩ := Array.any_eq_true.1 h5
        exact ⟨oj.after[k], Array.getElem_mem hk, h9⟩
      simp only [Bool.and_eq_true, beq_iff_eq] at hb
      by_cases hjL : j = L
      · obtain ⟨_, o', ho', hall⟩ := mem_ready.1 h3
        rw [← hjL, hj] at ho'
        have := hall e (by rw [← Option.some.inj ho']; exact he) hb.1
        rwa [hb.2] at this
      · have h7 := chain_listed hd r j h6 (by rwa [List.getLast?_cons_cons] at h2) h3 hjL
        have h8 : listed.getD j true = true := by
          rcases Nat.lt_or_ge j listed.size with h' | h'
          · simp [h'] at h7 ⊢; exact h7
          · simp [Array.getElem?_eq_none h'] at h7
        have := down_at hd hj h8 e he hb.1
        rwa [hb.2] at this
theorem wpAnyK_first {i : Nat} {oi : Oper} {v : Value} (l : List Nat) (hc : chainB md ops (i :: l) = true) (hlast : (i :: l).getLast? = some L) (hiL : i ≠ L) (hi : ops[i]? = some oi) (hsel : ∀ (j : Nat) (o : Oper) cs b, ops[j]? = some o → o.op ≠ .select cs b)
    (hQ : ∀ c a w, Q (.panic c) (a.put oi.dst v) w → Q (.panic c) a w) :
    ∀ (fuel : Nat) (listed : Array Bool) (a : Act) (w : World), downB md ops listed = true →
      (∀ j oj, ops[j]? = some oj → j ≠ i → listed.getD j true = false → (∀ e ∈ oj.after, Region.binds md e = true → e.on ≠ i) → oi.apart ops oj = true) →
      i ∈ Region.ready md ops listed → YieldsIf P ops S oi v a → S w →
      wpAnyK P md ops Q S L fuel (listed.setIfInBounds i true) (a.put oi.dst v) w → wpAnyK P md ops Q S L (fuel + 1) listed a w := by
  intro fuel
  induction fuel with
  | zero =>
    intro listed a w _ _ hr hy hS H
    refine ⟨fun h => (by rw [h] at hr; cases hr), fun j hj => ?_⟩
    by_cases hji : j = i
    · subst hji; exact hy.wpOp hi hS ⟨fun _ => hS, H⟩
    · have := ready_mono hj hji
      rw [H.1] at this
      cases this
  | succ fuel ih =>
    intro listed a w hd hfree hr hy hS H
    refine ⟨fun h => (by rw [h] at hr; cases hr), fun j hj => ?_⟩
    by_cases hji : j = i
    · subst hji; exact hy.wpOp hi hS ⟨fun _ => hS, H⟩
    · have h1 := H.2 j (ready_mono hj hji)
      obtain ⟨hjun, oj, hoj, hall⟩ := mem_ready.1 hj
      have hiun := (mem_ready.1 hr).1
      have hcon : ∀ k, listed.getD k true = false → listed.getD k false = true → False := fun k h0 h1 => by
        rcases Nat.lt_or_ge k listed.size with h' | h'
        · simp [h'] at h0 h1; rw [h0] at h1; cases h1
        · simp [Array.getElem?_eq_none h'] at h1
      have hjL : j ≠ L := fun e => hcon i hiun (chain_listed hd l i hc hlast (e ▸ hj) hiL)
      have hnot : ∀ e ∈ oj.after, Region.binds md e = true → e.on ≠ i := fun e he hb heq => hcon i hiun (by rw [← heq]; exact hall e he hb)
      have h2 := wpOp_putIf hoj (hfree j oj hoj hji hjun hnot) (fun cs b => hsel i oi cs b hi) (fun cs b => hsel j oj cs b hoj) hQ hy h1
      have hfree' : ∀ k ok, ops[k]? = some ok → k ≠ i → (listed.setIfInBounds j true).getD k true = false →
          (∀ e ∈ ok.after, Region.binds md e = true → e.on ≠ i) → oi.apart ops ok = true := fun k ok hk hki hun hno => by
        refine hfree k ok hk hki ?_ hno
        by_cases hjk : j = k
        · subst hjk; exact hjun
        · rw [getD_set_ne true hjk] at hun; exact hun
      refine wpOp_mono (fun a' w' h3 => ⟨fun _ => h3.2.1 hjL, ih (listed.setIfInBounds j true) a' w' (down_set hd hj) hfree' (ready_mono hr (Ne.symm hji)) h3.1 (h3.2.1 hjL) ?_⟩) h2
      rw [Array.setIfInBounds_comm _ _ hji]
      exact h3.2.2
theorem wpAnyK_take {i : Nat} {oi : Oper} {v : Value} {fuel : Nat} {listed : Array Bool} {a : Act} {w : World} (l : List Nat) (hi : ops[i]? = some oi) (hc : (chainB md ops (i :: l) && ((i :: l).getLast? == some L) && (i != L) && downB md ops listed && Region.noSelect ops && Region.free md ops listed i && (Region.ready md ops listed).contains i) = true)
    (hQ : ∀ c a w, Q (.panic c) (a.put oi.dst v) w → Q (.panic c) a w) (hy : YieldsIf P ops S oi v a) (hS : S w)
    (h : wpAnyK P md ops Q S L fuel (listed.setIfInBounds i true) (a.put oi.dst v) w) : wpAnyK P md ops Q S L (fuel + 1) listed a w := by
  simp only [Bool.and_eq_true, beq_iff_eq, bne_iff_ne] at hc
  obtain ⟨⟨⟨⟨⟨⟨h1, h2⟩, h3⟩, h4⟩, h5⟩, h6⟩, h7⟩ := hc
  exact wpAnyK_first l h1 h2 h3 hi (Region.noSelect_spec h5) hQ fuel listed a w h4 (Region.free_spec hi h6) (by simpa using h7) hy hS h
theorem wpAnyK_done {listed : Array Bool} {a : Act} {w : World} (hr : Region.ready md ops listed = []) (h : Q .normal a w) : ∀ fuel, wpAnyK P md ops Q S L fuel listed a w
  | 0 => ⟨hr, h⟩
  | _ + 1 => ⟨fun _ => h, by rw [hr]; simp⟩
theorem wp_region_K {id : Nat} {a : Act} {w : World} (S : World → Prop) (L : Nat) (hm : P.follows .mixedOrders = true) (hS : S w.drew) (h : S w.drew → wpAnyK P .any ops Q S L ops.size (Array.replicate ops.size false) a w.drew) : (Code.region id ops true).wp P Q a w :=
  wp_region_any hm (wpAny_of_K _ _ _ _ (h hS))
theorem wpAnyK_one {i : Nat} {o : Oper} {fuel : Nat} {listed : Array Bool} {a : Act} {w : World} (hr : Region.ready md ops listed = [i]) (ho : ops[i]? = some o)
    (h : ∀ K' : Act → World → Prop, Shut (∀ a w, (i ≠ L → S w) → ((i ≠ L → S w) → wpAnyK P md ops Q S L fuel (listed.setIfInBounds i true) a w) → K' a w) → if Region.wanted o (yielded ops a.tmps) = true then Oper.wp P o a w K' Q else K' (a.put o.dst undef) w) :
    wpAnyK P md ops Q S L (fuel + 1) listed a w := by
  refine ⟨(fun h0 => by rw [h0] at hr; cases hr), fun j hj => ?_⟩
  rw [hr] at hj
  rw [List.mem_singleton.1 hj]
  exact wpOp_step ho (fun K' hK => h K' (fun a w hS hW => hK a w ⟨hS, hW hS⟩))
theorem wpAnyK_two {i i' : Nat} {o o' : Oper} {fuel : Nat} {listed : Array Bool} {a : Act} {w : World} (hr : Region.ready md ops listed = [i, i']) (ho : ops[i]? = some o) (ho' : ops[i']? = some o')
    (h : ∀ K' : Act → World → Prop, Shut (∀ a w, (i ≠ L → S w) → ((i ≠ L → S w) → wpAnyK P md ops Q S L fuel (listed.setIfInBounds i true) a w) → K' a w) → if Region.wanted o (yielded ops a.tmps) = true then Oper.wp P o a w K' Q else K' (a.put o.dst undef) w)
    (h' : ∀ K' : Act → World → Prop, Shut (∀ a w, (i' ≠ L → S w) → ((i' ≠ L → S w) → wpAnyK P md ops Q S L fuel (listed.setIfInBounds i' true) a w) → K' a w) → if Region.wanted o' (yielded ops a.tmps) = true then Oper.wp P o' a w K' Q else K' (a.put o'.dst undef) w) :
    wpAnyK P md ops Q S L (fuel + 1) listed a w := by
  refine ⟨(fun h0 => by rw [h0] at hr; cases hr), fun j hj => ?_⟩
  rw [hr] at hj
  rcases List.mem_cons.1 hj with rfl | hj
  · exact wpOp_step ho (fun K' hK => h K' (fun a w hS hW => hK a w ⟨hS, hW hS⟩))
  · rw [List.mem_singleton.1 hj]
    exact wpOp_step ho' (fun K' hK => h' K' (fun a w hS hW => hK a w ⟨hS, hW hS⟩))
end
end Go.Proofs.YtibndaianhlcaaaGreatDoor
