/- machine.New, Plan, fails, at. machine.at: where a unit runs. Cells written one after the other. slices.Delete at units. machine.stop. -/
import Derived.Test.YtibndaianhlcaaaGreatDoorPart11
import Derived.Test.YtibndaianhlcaaaGreatDoorPart8
import Derived.Deep.RegionLaw
import Derived.Lib.SliceRun
namespace Go.Proofs.YtibndaianhlcaaaGreatDoor
open Go.RowKit Go.Sort Go.Shelf
set_option linter.unusedVariables false
set_option linter.unusedSimpArgs false

/-- All that is new belongs to it. -/
def Fn (F : Nat → Prop) (w w' : World) : Nat → Prop := fun k => F k ∨ (w.heap.size ≤ k ∧ k < w'.heap.size)
theorem fn_wide (F : Nat → Prop) (w w' : World) : ∀ k, F k → Fn F w w' k := fun _ h => .inl h
theorem Step.fn {w w' : World} {F G : Nat → Prop} (h : Step w w' F G) : Step w w' F (Fn F w w') := ⟨h.os, h.tape, h.output, h.size, h.block, fun k hk => by rcases hk with h1 | h1; exact .inl h1; exact .inr h1.1⟩
section
variable {w w' : World} {F : Nat → Prop} {g : Nat} {s : Mach} {fA : Option Addr} {fn fc : Nat} {es : List EV} {uA : Option Addr} {un uc : Nat} {nA : Option Addr} {nn nc : Nat} {us : List SV} {pA : Option Addr} {pn pc : Nat}
theorem MachV.wide {G : Nat → Prop} (h : MachV w F g s fA fn fc es uA un uc nA nn nc us pA pn pc) (hg : ∀ k, F k → G k) : MachV w G g s fA fn fc es uA un uc nA nn nc us pA pn pc :=
  ⟨h.blk, hg _ h.foot, h.files.wide hg, h.ents, fun e he => (h.data e he).wide hg, h.users.wide hg, h.units.wide hg, h.srvs, fun u hu => (h.req u hu).wide hg, fun u hu => (h.aft u hu).wide hg, h.plan.wide hg, h.sep⟩
theorem MachV.setPlan (h : MachV w F g s fA fn fc es uA un uc nA nn nc us pA pn pc) {A : Option Addr} {n c : Nat} {p : List Bool} (hp : Cut w F 4 A n c (p.map bl)) :
    MachV (w.setCell ⟨g, 3, none⟩ (.slice A n c)) F g ⟨s.files, s.users, s.units, p⟩ fA fn fc es uA un uc nA nn nc us A n c := by
  obtain ⟨h1, h2, h3, h4, h5, h6, _⟩ := h.cells (p := ⟨g, 3, none⟩) rfl (.slice A n c)
  refine ⟨h.blk.set_ 3 _, h.foot, h1, h.ents, h2, h3, h4, h.srvs, h5, h6, ?_, h.sep⟩
  refine hp.other (by simp [World.setCell]) fun k cur fr hk => ?_
  refine Below.heap_setCell w _ _ k (fun e1 => ?_)
  simp only at e1
  subst e1
  have hB := h.blk
  unfold Blk at hB
  rw [hB] at hk
  injection hk with hk
  injection hk with _ hk
  exact absurd hk (by decide)
theorem MachV.facts (h : MachV w F g s fA fn fc es uA un uc nA nn nc us pA pn pc) : w.cell? ⟨g, 0, none⟩ = some (.slice fA fn fc) ∧ w.cell? ⟨g, 1, none⟩ = some (.slice uA un uc) ∧ w.cell? ⟨g, 2, none⟩ = some (.slice nA nn nc) ∧ w.cell? ⟨g, 3, none⟩ = some (.slice pA pn pc) ∧ ∀ i, w.frozen? ⟨g, i, none⟩ = false :=
  ⟨h.blk.cell 0, h.blk.cell 1, h.blk.cell 2, h.blk.cell 3, h.blk.frozen⟩
end
theorem new_any (w : World) : Calls Tryz.prog 20 #[] w fun e w' => e = .returned (.pointer (some ⟨w.heap.size, 0, none⟩)) ∧ MachAt w' (fun k => k = w.heap.size) w.heap.size newM ∧ Below w.heap.size w w' := by
  have hb := (Below.refl w.heap.size w).alloc (Nat.le_refl _) (.cells #[.slice none 0 0, .slice none 0 0, .slice none 0 0, .slice none 0 0] 53)
  have hB := Blk.new w 53 #[.slice none 0 0, .slice none 0 0, .slice none 0 0, .slice none 0 0]
  go_enter Tryz.func20, Tryz.ntmps20
  go_wp2_with (fail)
  go_ret
  exact ⟨rfl, ⟨none, 0, 0, [], none, 0, 0, none, 0, 0, [], none, 0, 0, hB, rfl, Row.nil _ _ _ _, rfl, (fun e he => by cases he), Row.nil _ _ _ _, Row.nil _ _ _ _, rfl, (fun u hu => by cases hu), (fun u hu => by cases hu), Cut.nil _ _ _, fun u hu => by cases hu⟩, hb⟩
theorem bool_info : (Tryz.prog.info? 4).map (fun i => (i.zero, i.size, i.bytes)) = some (some (.bool false), 1, 1) := by kernel_rfl
theorem bls_one (l : List Bool) : ∀ u ∈ l.map bl, u.oneCell' = true := by
  intro u hu
  obtain ⟨c, _, rfl⟩ := List.mem_map.1 hu
  rfl
set_option maxRecDepth 100000 in
set_option maxHeartbeats 1000000 in
theorem plan_any {w : World} {F : Nat → Prop} {g : Nat} {s : Mach} (h : MachAt w F g s) {B : Nat} {A : Option Addr} {n c : Nat} {p : List Bool} (hp : Slc w B 1 A n c (p.map bl)) (hB : B ≤ w.heap.size) (hn : n ≤ 1000000000) :
    Calls Tryz.prog 21 #[.pointer (some ⟨g, 2, none⟩), .slice A n c] w fun e w' => e = .returned (.tuple #[]) ∧ MachAt w' (Fn F w w') g ⟨s.files, s.users, s.units, p⟩ ∧ Step w w' F (Fn F w w') := by
  obtain ⟨fA, fn, fc, es, uA, un, uc, nA, nn, nc, us, pA, pn, pc, h⟩ := h
  have ho0 : (w.alloc (.cells #[] 4)).ownsRow w.heap.size 4 1 (.slice (some ⟨w.heap.size, 0, none⟩) 0 0) 0 [] := World.ownsRow_made w #[] 0 (Nat.le_refl _) (Nat.zero_le _) rfl
  have hb1 : Below w.heap.size w (w.alloc (.cells #[] 4)) := (Below.refl _ w).alloc (Nat.le_refl _) _
  obtain ⟨i, hi, hz0, hz1, hz2⟩ := info_parts bool_info
  obtain ⟨A2, c2, w2, hr, ho, hg, _⟩ := append_slc (P := Tryz.prog) (w.alloc (.cells #[] 4)) w.heap.size 41 41 4 i _ 1 1 Tryz.underlying41 hi hz0 hz1 hz2 rfl (by decide) _ 0 [] ho0 B A n c (p.map bl) (hp.below (hb1.mono hB)) (bls_one p) (by unfold maxLen; omega) (by omega) (by simp)
  rw [Nat.zero_add, List.nil_append] at ho
  rw [Nat.zero_add] at hr
  have hb2 : Below w.heap.size w w2 := grown_below hb1 ho0 (by simp) hg
  have h2 := h.below hb2
  have hR : Row w2 (Fn F w w2) 4 1 (.slice A2 n c2) n (p.map bl) := ⟨⟨ho.1, ho.2.imp id fun ⟨g', cap, cur, e, _, r⟩ => ⟨g', cap, cur, e, Nat.zero_le _, r⟩⟩, fun k hk => .inr (ho.lt k hk)⟩
  have h3 := (h2.wide (fn_wide F w w2)).setPlan (Cut.of_row hR)
  obtain ⟨_, _, _, m3, mf⟩ := h2.facts
  have mf3 := mf 3
  have HV := Lib.hid h3
  have hst : Step w (w2.setCell ⟨g, 3, none⟩ (.slice A2 n c2)) F F := (Step.of_below hb2 F).setCell (p := ⟨g, 3, none⟩) (.inl h.foot) _
  have HS := Lib.hid hst.fn
  have hsz : (w2.setCell ⟨g, 3, none⟩ (.slice A2 n c2)).heap.size = w2.heap.size := by simp [World.setCell]
  have HE := Lib.hid (show Fn F w (w2.setCell ⟨g, 3, none⟩ (.slice A2 n c2)) = Fn F w w2 by unfold Fn; rw [hsz])
  clear h h2 h3 hR ho hg hb1 hb2 ho0 mf hst hsz hp
  go_enter Tryz.func21, Tryz.ntmps21
  go_wp2_with (at_builtin; refine wpList_append_run rfl _ _ _ rfl rfl rfl hr ?_; clear hr)
  go_end0
  exact ⟨rfl, ⟨fA, fn, fc, es, uA, un, uc, nA, nn, nc, us, A2, n, c2, by rw [HE.out]; exact HV.out⟩, HS.out⟩
theorem plan_head {w : World} {F : Nat → Prop} {A : Option Addr} {n c : Nat} {b : Bool} {p : List Bool} (h : Cut w F 4 A n c ((b :: p).map bl)) : ∃ q off, A = some ⟨q, off, none⟩ ∧ 0 < n ∧ w.cell? ⟨q, off, none⟩ = some (.bool b) ∧
    (c ≠ 1 → Cut w F 4 (some ⟨q, off + 1, none⟩) (n - 1) (c - 1) (p.map bl)) ∧ (c = 1 → Cut w F 4 (some ⟨q, off, none⟩) (n - 1) (c - 1) (p.map bl)) := by
  have hl := h.slc.len
  simp at hl
  obtain ⟨q, off, e, hq, hc⟩ := h.slc.at_ (by omega)
  have h0 := hc 0 (.bool b) rfl
  have hle := h.slc.le
  refine ⟨q, off, e, by omega, h0, fun hc1 => ⟨⟨by simp; omega, by omega, by have := h.slc.cmax; omega, fun hn => ⟨q, off + 1, rfl, hq, fun j u hu => ?_⟩⟩, fun hn => ?_⟩, fun hc1 => ?_⟩
  · have := hc (j + 1) u (by simpa using hu)
    rwa [show off + 1 + j = off + (j + 1) by omega]
  · obtain ⟨b', off', cur, fr, e2, hF, hB⟩ := h.at_ (by omega)
    rw [e] at e2
    injection e2 with e2
    injection e2 with e2 e3
    subst e2
    exact ⟨q, off + 1, cur, fr, rfl, hF, hB⟩
  · have hp0 : p = [] := List.eq_nil_of_length_eq_zero (by omega)
    subst hp0
    exact ⟨⟨by simp; omega, by omega, by omega, fun hn => by omega⟩, fun hn => by omega⟩
set_option maxRecDepth 100000 in
set_option maxHeartbeats 1000000 in
theorem fails_any {w : World} {F : Nat → Prop} {g : Nat} {s : Mach} {fA : Option Addr} {fn fc : Nat} {es : List EV} {uA : Option Addr} {un uc : Nat} {nA : Option Addr} {nn nc : Nat} {us : List SV} {pA : Option Addr} {pn pc : Nat} (h : MachV w F g s fA fn fc es uA un uc nA nn nc us pA pn pc) :
    Calls Tryz.prog 109 #[.pointer (some ⟨g, 2, none⟩)] w fun e w' => e = .returned (.bool (failsP s.plan)) ∧ (∃ qA qn qc, MachV w' F g ⟨s.files, s.users, s.units, s.plan.tail⟩ fA fn fc es uA un uc nA nn nc us qA qn qc) ∧ Step w w' F F ∧ w'.heap.size = w.heap.size := by
  obtain ⟨f, u, n, pl⟩ := s
  cases pl with
  | nil =>
    have hp0 : pn = 0 := by have := h.plen; simpa using this.symm
    subst hp0
    obtain ⟨_, _, _, m3, _⟩ := h.facts
    have H := Lib.hid h
    clear h
    go_enter Tryz.func109, Tryz.ntmps109
    go_wp2_with (fail)
    go_ret
    exact ⟨rfl, ⟨_, _, _, H.out⟩, Step.refl _ _, rfl⟩
  | cons b p =>
    obtain ⟨q, off, rfl, hn, c0, k1, k2⟩ := plan_head h.plan
    obtain ⟨_, _, _, m3, mf⟩ := h.facts
    have mf3 := mf 3
    have hpc : pn ≤ pc := h.plan.slc.le
    have hn0 : ¬ pn = 0 := by omega
    have hneq : ((pn : Int) == 0) = false := by rw [beq_eq_false_iff_ne]; omega
    have h1c : (1 : Int) ≤ (pn : Int) := by omega
    have h1p : 1 ≤ pn := by omega
    have hc62 : pc ≤ 9223372036854775807 := by have := h.plan.slc.cmax; unfold maxLen at this; omega
    have HST := Lib.hid (fun v => (Step.refl w F).setCell (p := ⟨g, 3, none⟩) (.inl h.foot) v)
    by_cases hc1 : pc = 1
    · have HV := Lib.hid (h.setPlan (k2 hc1))
      subst hc1
      obtain rfl : pn = 1 := by omega
      clear h k1 k2 mf
      go_enter Tryz.func109, Tryz.ntmps109
      go_wp2_with (fail)
      go_ret
      exact ⟨rfl, ⟨_, _, _, HV.out⟩, HST.out _, by simp [World.setCell]⟩
    · have HV := Lib.hid (h.setPlan (k1 hc1))
      have hc1' : ¬ 1 = pc := fun e => hc1 e.symm
      clear h k1 k2 mf
      go_enter Tryz.func109, Tryz.ntmps109
      go_wp2_with (fail)
      go_ret
      exact ⟨rfl, ⟨_, _, _, HV.out⟩, HST.out _, by simp [World.setCell]⟩
end Go.Proofs.YtibndaianhlcaaaGreatDoor
namespace Go.Proofs.YtibndaianhlcaaaGreatDoor
open Go.RowKit Go.Sort Go.Shelf
set_option linter.unusedVariables false
set_option linter.unusedSimpArgs false

def svArr (u : SV) : Array Value := #[.string ⟨u.name.toArray⟩, .string ⟨u.start.toArray⟩, .slice u.A u.n u.c, .slice u.A2 u.n2 u.c2]
theorem predU_any (u : SV) (name : Txt) (bn : Nat) (w : World) (hbn : w.cell? ⟨bn, 0, none⟩ = some (.string ⟨name.toArray⟩)) :
    Calls Tryz.prog 133 #[.agg (svArr u), .pointer (some ⟨bn, 0, none⟩)] w fun e w' => e = .returned (.bool (decide (u.name = name))) ∧ Below w.heap.size w w' := by
  have hlt : bn < w.heap.size := World.block_lt_of_cell? _ _ hbn
  have hb := (Below.refl w.heap.size w).alloc (Nat.le_refl _) (.cells (svArr u) 59)
  have t1 : (ByteArray.mk u.name.toArray).toList = u.name := Go.ByteArray.toList_eq _
  have t2 : (ByteArray.mk name.toArray).toList = name := Go.ByteArray.toList_eq _
  unfold svArr at hb ⊢
  obtain ⟨un, us, ur, uA, un1, uc1, ua, uA2, un2, uc2⟩ := u
  simp only at t1 hb ⊢
  cases h : (un == name) with
  | true =>
    have H := Lib.hid (show un = name by simpa using h)
    go_enter Tryz.func133, Tryz.ntmps133
    go_wp2
    go_ret
    exact ⟨by rw [decide_eq_true H.out]; rfl, hb⟩
  | false =>
    have H := Lib.hid (show ¬ un = name by simpa using h)
    go_enter Tryz.func133, Tryz.ntmps133
    go_wp2
    go_ret
    exact ⟨by rw [decide_eq_false H.out]; rfl, hb⟩
def atU (l : List Srv) (n : Txt) : Int := if hasU l n = true then (idxU l n : Int) else -1
set_option maxRecDepth 100000 in
set_option maxHeartbeats 1000000 in
theorem idxU_any {w : World} {B : Nat} {A : Option Addr} {n c : Nat} {us : List SV} (h : UnitsAt w B A n c us) (hB : B ≤ w.heap.size) (name : Txt) (bn : Nat) (hbn : w.cell? ⟨bn, 0, none⟩ = some (.string ⟨name.toArray⟩)) :
    Calls Tryz.prog 82 #[.slice A n c, .func (.func 133) #[] #[.pointer (some ⟨bn, 0, none⟩)]] w fun e w' => e = .returned (.int .i64 (atU (us.map SV.srv) name)) ∧ Below w.heap.size w w' := by
  have hn62 : n ≤ 9223372036854775807 := by have := h.slc.le; have := h.slc.cmax; unfold maxLen at this; omega
  have hbl : bn < w.heap.size := World.block_lt_of_cell? _ _ hbn
  have H := Lib.hid h
  have HL := Lib.hid h.len
  clear h
  go_enter Tryz.func82, Tryz.ntmps82
  go_wp2_with (fail)
  go_loopw [8] (fun i wr => ∃ k : Nat, k ≤ n ∧ i = .int .i64 (k : Int) ∧ Aside (∀ i (hi : i < (us.map SV.srv).length), i < k → (us.map SV.srv)[i].name ≠ name) ∧ Aside (Below w.heap.size w wr)) (fun i _ => n - (intOf i).toNat)
  case atStart => exact ⟨0, Nat.zero_le _, rfl, fun i _ h => absurd h (Nat.not_lt_zero _), Below.refl _ _⟩
  case round =>
    obtain ⟨k, hk, rfl, hno, hb⟩ := hrel
    by_cases hlt : k < n
    · obtain ⟨b, off, rfl, hbB, hl, c0, c1, c2, c3, _, _⟩ := (H.out.below (hb.out.mono hB)).at_ hlt
      have hp := predU_any us[k] name bn wr ((hb.out.cell (p := ⟨bn, 0, none⟩) hbl).trans hbn)
      have hkm : k < (us.map SV.srv).length := by simpa using hl
      have hnm : (us.map SV.srv)[k].name = us[k].name := by simp [SV.srv]
      by_cases hhit : us[k].name = name
      · have HA := Lib.hid (idxU_eq (l := us.map SV.srv) hkm (hnm.trans hhit) (fun i hi hik => hno.out i hi hik))
        rw [decide_eq_true hhit] at hp
        clear hhit hnm hkm
        unfold svArr at hp
        generalize us[k] = u at *
        obtain ⟨un, ust, ur, uA, un1, uc1, ua, uA2, un2, uc2⟩ := u
        simp only at hp c0 c1 c2 c3
        go_wp2_with (go_at_call 133; refine hp.mono ?_; clear hp; rintro e2 w2 ⟨rfl, hb2⟩)
        go_ret
        exact ⟨by unfold atU; rw [if_pos HA.out.2, HA.out.1]; rfl, hb.out.trans (hb2.mono hb.out.size)⟩
      · have HN := Lib.hid (show ∀ i (hi : i < (us.map SV.srv).length), i < k + 1 → (us.map SV.srv)[i].name ≠ name from fun i hi hik => by
          rcases Nat.lt_or_ge i k with h1 | h1
          · exact hno.out i hi h1
          · obtain rfl : i = k := by omega
            rw [hnm]
            exact hhit)
        rw [decide_eq_false hhit] at hp
        clear hhit hnm hkm
        unfold svArr at hp
        generalize us[k] = u at *
        obtain ⟨un, ust, ur, uA, un1, uc1, ua, uA2, un2, uc2⟩ := u
        simp only at hp c0 c1 c2 c3
        go_wp2_with (go_at_call 133; refine hp.mono ?_; clear hp; rintro e2 w2 ⟨rfl, hb2⟩)
        exact ⟨⟨k + 1, by omega, by go_num, HN.out, hb.out.trans (hb2.mono hb.out.size)⟩, by simp [intOf]; omega⟩
    · have HF := Lib.hid (hasU_none (l := us.map SV.srv) (n := name) fun i hi => hno.out i hi (by have := HL.out; simp at hi; omega))
      go_wp2_with (fail)
      go_ret
      exact ⟨by unfold atU; rw [if_neg (by rw [HF.out]; decide)]; rfl, hb.out⟩
theorem MachV.unitsAt {w : World} {F : Nat → Prop} {g : Nat} {s : Mach} {fA : Option Addr} {fn fc : Nat} {es : List EV} {uA : Option Addr} {un uc : Nat} {nA : Option Addr} {nn nc : Nat} {us : List SV} {pA : Option Addr} {pn pc : Nat} (h : MachV w F g s fA fn fc es uA un uc nA nn nc us pA pn pc) : UnitsAt w w.heap.size nA nn nc us :=
  ⟨h.units.slc', h.nlen.1, fun u hu => (h.req u hu).slc', fun u hu => (h.aft u hu).slc'⟩
set_option maxRecDepth 100000 in
theorem at_any {w : World} {F : Nat → Prop} {g : Nat} {s : Mach} {fA : Option Addr} {fn fc : Nat} {es : List EV} {uA : Option Addr} {un uc : Nat} {nA : Option Addr} {nn nc : Nat} {us : List SV} {pA : Option Addr} {pn pc : Nat} (h : MachV w F g s fA fn fc es uA un uc nA nn nc us pA pn pc) (name : Txt) :
    Calls Tryz.prog 108 #[.pointer (some ⟨g, 2, none⟩), .string ⟨name.toArray⟩] w fun e w' => e = .returned (.int .i64 (atU s.units name)) ∧ Below w.heap.size w w' := by
  have hb1 : Below w.heap.size w (w.alloc (.cells #[.string ⟨name.toArray⟩] 9)) := (Below.refl _ w).alloc (Nat.le_refl _) _
  have h1 := h.below hb1
  have hx := idxU_any (h.unitsAt.below hb1) (by simp) name w.heap.size (World.cell?_alloc_mark w _ _ _ 0)
  rw [h.srvs] at hx
  have m2 := h1.facts.2.2.1
  have HB1 := Lib.hid hb1
  clear h h1 hb1
  go_enter Tryz.func108, Tryz.ntmps108
  go_wp2_with (go_at_call 82; refine hx.mono ?_; clear hx; rintro e2 w2 ⟨rfl, hb2⟩)
  go_ret
  exact ⟨rfl, HB1.out.trans (hb2.mono HB1.out.size)⟩
end Go.Proofs.YtibndaianhlcaaaGreatDoor
namespace Go.Proofs.YtibndaianhlcaaaGreatDoor
open Go.RowKit Go.Sort
set_option linter.unusedVariables false
set_option linter.unusedSimpArgs false

def sets (cs : Array Value) : Nat → List Value → Array Value
  | _, [] => cs
  | o, v :: r => sets (cs.setIfInBounds o v) (o + 1) r
theorem Blk.setCells {g : Nat} {t : TypeId} : ∀ (vs : List Value) (o : Nat) {w : World} {cs : Array Value}, Blk w g t cs → Blk (w.setCells g o vs) g t (sets cs o vs)
  | [], _, _, _, h => h
  | v :: r, o, _, _, h => Blk.setCells r (o + 1) (h.set_ o v)
theorem below_setCells {B : Nat} {a : World} {g : Nat} (hg : B ≤ g) : ∀ (vs : List Value) (o : Nat) {w : World}, Below B a w → Below B a (w.setCells g o vs)
  | [], _, _, h => h
  | v :: r, o, _, h => below_setCells hg r (o + 1) (h.setCell hg v)
theorem sets_size : ∀ (vs : List Value) (o : Nat) (cs : Array Value), (sets cs o vs).size = cs.size
  | [], _, _ => rfl
  | v :: r, o, cs => by rw [sets, sets_size r]; simp
theorem sets_list : ∀ (vs : List Value) (o : Nat) (cs : Array Value), o + vs.length ≤ cs.size → (sets cs o vs).toList = cs.toList.take o ++ vs ++ cs.toList.drop (o + vs.length)
  | [], o, cs, _ => by simp [sets]
  | v :: r, o, cs, h => by
    rw [List.length_cons] at h
    rw [sets, sets_list r (o + 1) _ (by simp; omega)]
    have hl : o < cs.toList.length := by simp; omega
    have e : (cs.setIfInBounds o v).toList = cs.toList.take o ++ v :: cs.toList.drop (o + 1) := by
      rw [Array.toList_setIfInBounds, List.set_eq_take_append_cons_drop, if_pos hl]
    have hlt : (cs.toList.take o).length = o := by rw [List.length_take]; omega
    rw [e, List.take_append, hlt, show o + 1 - o = 1 by omega, List.take_of_length_le (by omega), List.drop_append, hlt]
    have hnil : List.drop (o + 1 + r.length) (List.take o cs.toList) = [] := List.drop_eq_nil_of_le (by omega)
    rw [hnil]
    rw [show o + 1 + r.length - o = r.length + 1 by omega]
    simp only [List.take_succ_cons, List.take_zero, List.drop_succ_cons, List.nil_append, List.drop_drop, List.length_cons, List.append_assoc, List.cons_append]
    rw [show o + 1 + r.length = o + (r.length + 1) by omega]
theorem grownBy_setCells {g : Nat} : ∀ (vs : List Value) (o : Nat) {a w : World}, a.grownBy w (some g) → a.grownBy (w.setCells g o vs) (some g)
  | [], _, _, _, h => h
  | v :: r, o, a, w, h => grownBy_setCells r (o + 1) ⟨h.os, h.tape, h.output, by simpa [World.setCell] using h.size, fun k hk hne => by
      rw [Below.heap_setCell w ⟨g, o, none⟩ v k (fun e => hne (by rw [e]))]; exact h.block k hk hne⟩
theorem flatMap_take {α : Type} (g : α → List Value) (sz : Nat) : ∀ (l : List α) (k : Nat), (∀ x ∈ l, (g x).length = sz) → (l.flatMap g).take (k * sz) = (l.take k).flatMap g ∧ (l.flatMap g).drop (k * sz) = (l.drop k).flatMap g
  | [], k, _ => by simp
  | x :: l, 0, _ => by simp
  | x :: l, k + 1, h => by
    have hx := h x List.mem_cons_self
    have ih := flatMap_take g sz l k (fun y hy => h y (List.mem_cons_of_mem _ hy))
    rw [List.flatMap_cons, Nat.succ_mul, List.take_succ_cons, List.flatMap_cons, List.drop_succ_cons]
    constructor
    · rw [List.take_append, hx, List.take_of_length_le (by omega), show k * sz + sz - sz = k * sz by omega, ih.1]
    · rw [List.drop_append, hx, List.drop_eq_nil_of_le (by omega), show k * sz + sz - sz = k * sz by omega, ih.2, List.nil_append]

end Go.Proofs.YtibndaianhlcaaaGreatDoor
namespace Go.Proofs.YtibndaianhlcaaaGreatDoor
open Go.RowKit Go.Sort
set_option linter.unusedVariables false
set_option linter.unusedSimpArgs false

theorem unit_info : (Tryz.prog.info? 59).map (fun i => (i.zero, i.size, i.bytes)) = some (some (.agg #[.string .empty, .string .empty, .slice none 0 0, .slice none 0 0]), 4, 80) := by kernel_rfl
theorem unit_zero : ∀ w, (zeroValue 59).run Tryz.prog w = .ok (.agg #[.string .empty, .string .empty, .slice none 0 0, .slice none 0 0]) w := Tryz.zeroValue59
/-- clear of one generation. -/
theorem run_clear_unit (w : World) (ty : TypeId) (b o c : Nat) (hc : ∀ j, j < 4 → (w.cell? ⟨b, o + j, none⟩).isSome = true) (hf : ∀ j, j < 4 → w.frozen? ⟨b, o + j, none⟩ = false) :
    (Builtin.clear_ #[24] ty #[.slice (some ⟨b, o, none⟩) 1 c]).run Tryz.prog w = .ok (.tuple #[]) (w.setCells b o [.string ⟨#[]⟩, .string ⟨#[]⟩, .slice none 0 0, .slice none 0 0]) := by
  have hst := run_storeCells_cells (P := Tryz.prog) b o [.string ⟨#[]⟩, .string ⟨#[]⟩, .slice none 0 0, .slice none 0 0] 0 w (by simpa using hc) (by simpa using hf) (by intro v hv; simp only [List.mem_cons, List.not_mem_nil, or_false] at hv; rcases hv with rfl | rfl | rfl | rfl <;> rfl)
  simp only [Nat.add_zero] at hst
  have hz : (Builtin.zeroCells (Value.agg #[.string ⟨#[]⟩, .string ⟨#[]⟩, .slice none 0 0, .slice none 0 0]).cells 1).toList = [.string ⟨#[]⟩, .string ⟨#[]⟩, .slice none 0 0, .slice none 0 0] := by kernel_rfl
  simp [Builtin.clear_, run_underlying Tryz.underlying24, unit_zero, hz, hst]

set_option maxHeartbeats 4000000 in
set_option maxRecDepth 100000 in
theorem deleteU_any {w : World} {base : Nat} {A : Option Addr} {n c : Nat} {l : List SV} (h : w.ownsRow base 59 4 (.slice A n c) n (l.flatMap svCells)) (i j : Nat) (hj : j = i + 1) (hi : i < n) :
    Calls Tryz.prog 110 #[.slice A n c, .int .i64 (i : Int), .int .i64 (j : Int)] w fun e w' => e = .returned (.slice A (n - 1) c) ∧
      w'.ownsRow base 59 4 (.slice A (n - 1) c) (n - 1) ((l.take i ++ l.drop j).flatMap svCells) ∧ w.grownBy w' (Value.slice A n c).ownBlock := by
  have hlen : l.length = n := by have h9 := h.1; rw [flatMap_len svCells 4 l (fun o _ => svCells_length o)] at h9; omega
  rcases h.2 with ⟨_, h0⟩ | ⟨g, cap, cur, e, hbase, hb, h1, h2, h3, h4⟩
  · omega
  injection e with e1 _ e3
  subst e1 e3
  have hB : Blk w g 59 cur := hb
  have hfm := flatMap_take svCells 4 l
  obtain ⟨news, hnews⟩ : ∃ news, news = (l.drop j).flatMap svCells := ⟨_, rfl⟩
  have hnl : news.length = (n - j) * 4 := by rw [hnews, flatMap_len svCells 4 _ (fun o _ => svCells_length o), List.length_drop, hlen]
  have hcellN : ∀ t u, news[t]? = some u → cur.toList[j * 4 + t]? = some u := by
    intro t u hu
    have ht := (List.getElem?_eq_some_iff.1 hu).1
    rw [hnews, ← (hfm j (fun o _ => svCells_length o)).2, List.getElem?_drop, ← h4, List.getElem?_take_of_lt (by omega)] at hu
    exact hu
  obtain ⟨AD, hA, hsrc⟩ : ∃ AD : Addr, (if c = j then some (⟨g, 0, none⟩ : Addr) else some ⟨g, j * 4, none⟩) = some AD ∧ Hid (∀ t u, news[t]? = some u → w.drew.cell? (AD.add t) = some u) := by
    by_cases hcj : c = j
    · refine ⟨⟨g, 0, none⟩, by simp [hcj], fun t u hu => ?_⟩
      have h0 : news.length = 0 := by rw [hnl]; omega
      rw [List.length_eq_zero_iff.1 h0] at hu
      simp at hu
    · refine ⟨⟨g, j * 4, none⟩, by simp [hcj], fun t u hu => ?_⟩
      rw [addr_of_add]
      have := hB.drew.cell (j * 4 + t)
      rw [this, ← Array.getElem?_toList]
      exact hcellN t u hu
  have s1 : Hid (news.length = (n - j) * 4) := hnl
  have s2 : Hid (∀ u ∈ news, u.oneCell' = true) := by rw [hnews]; exact svCells_one _
  have s3 : Hid (∀ t, t < news.length → (w.drew.cell? ⟨g, 0 + i * 4 + t, none⟩).isSome = true ∧ w.drew.frozen? ⟨g, 0 + i * 4 + t, none⟩ = false) := by
    intro t ht
    refine ⟨?_, hB.drew.frozen _⟩
    rw [hB.drew.cell, Array.getElem?_eq_getElem (by omega)]
    rfl
  obtain ⟨i0, hi0, hz0, hz1, hz2⟩ := info_parts unit_info
  obtain ⟨W1, hW1⟩ : ∃ W1, W1 = w.drew.setCells g (0 + i * 4) news := ⟨_, rfl⟩
  have hB1 : Blk W1 g 59 (sets cur (0 + i * 4) news) := by rw [hW1]; exact Blk.setCells news _ hB.drew
  have hcl : ∀ ty, (Builtin.clear_ #[24] ty #[.slice (some ⟨g, (i + (n - j)) * 4, none⟩) (n - (i + (n - j))) (c - (i + (n - j)))]).run Tryz.prog W1 = .ok (.tuple #[]) (W1.setCells g ((i + (n - j)) * 4) [.string ⟨#[]⟩, .string ⟨#[]⟩, .slice none 0 0, .slice none 0 0]) := fun ty => by
    rw [show n - (i + (n - j)) = 1 by omega]
    exact run_clear_unit W1 ty g ((i + (n - j)) * 4) _ (fun t ht => by rw [hB1.cell, Array.getElem?_eq_getElem (by rw [sets_size]; omega)]; rfl) (fun t _ => hB1.frozen _)
  have hW : Hid (W1 = w.drew.setCells g (0 + i * 4) news) := hW1
  have HB1 := Lib.hid hB1
  have hci : i ≤ c := by omega
  have hcj : j ≤ c := by omega
  have HJ := Lib.hid hj
  have hij : i < j := by omega
  have hjn : j ≤ n := by omega
  have hne : ((i : Int) == (j : Int)) = false := by simp; omega
  have H4 := Lib.hid h4
  have HNW := Lib.hid hnews
  clear hW1 hB1 hB hb hcellN hj h4 hnews hfm
  go_enter Tryz.func110, Tryz.ntmps110
  go_wp2_with fail
  go_region_law (refine step_append_room rfl (.tmp 22) (.tmp 25) 24 rfl 59 i0 4 Tryz.underlying24 hi0 hz1 g 0 i c (by simp [Act.eval, Act.put]) AD (n - j) (c - j) news (by simp [Act.eval, Act.put]) s1.out hsrc.out s2.out (by omega) s3.out ?_; rw [← hW.out])
  go_wp2
  go_ret
  have hj := HJ.out
  have hm : i + (n - j) = n - 1 := by omega
  have hB2 := Blk.setCells [.string ⟨#[]⟩, .string ⟨#[]⟩, .slice none 0 0, .slice none 0 0] ((i + (n - j)) * 4) HB1.out
  refine ⟨by rw [← hm]; rfl, ⟨?_, .inr ⟨g, c, _, rfl, hbase, hB2, by omega, h2, by rw [sets_size, sets_size, h3], ?_⟩⟩, ?_⟩
  · rw [flatMap_len svCells 4 _ (fun o _ => svCells_length o), List.length_append, List.length_take, List.length_drop]
    omega
  · have hcl : cur.toList.length = c * 4 := by simp [h3]
    have hsz : (sets cur (0 + i * 4) news).toList.length = c * 4 := by rw [Array.length_toList, sets_size, h3]
    rw [sets_list _ _ _ (by rw [sets_size, h3]; simp only [List.length_cons, List.length_nil]; omega), hm]
    have hl1 : ((sets cur (0 + i * 4) news).toList.take ((n - 1) * 4)).length = (n - 1) * 4 := by rw [List.length_take, hsz]; omega
    rw [List.append_assoc, List.take_append, hl1, Nat.sub_self, List.take_zero, List.append_nil, List.take_take, Nat.min_self]
    rw [sets_list _ _ _ (by rw [h3]; have := s1.out; omega), Nat.zero_add]
    have hl2 : (cur.toList.take (i * 4) ++ news).length = (n - 1) * 4 := by rw [List.length_append, List.length_take, s1.out, hcl]; omega
    rw [List.take_append, hl2, Nat.sub_self, List.take_zero, List.append_nil, List.take_of_length_le (by omega), List.flatMap_append]
    congr 1
    · have h5 := congrArg (List.take (i * 4)) H4.out
      rw [List.take_take, show min (i * 4) (n * 4) = i * 4 by omega] at h5
      rw [h5]
      exact (flatMap_take svCells 4 l i (fun o _ => svCells_length o)).1
  · have h0 : w.grownBy w.drew (some g) := ⟨rfl, rfl, rfl, Nat.le_refl _, fun _ _ _ => rfl⟩
    have h5 := grownBy_setCells [.string ⟨#[]⟩, .string ⟨#[]⟩, .slice none 0 0, .slice none 0 0] ((i + (n - j)) * 4) (grownBy_setCells news (0 + i * 4) h0)
    rw [← hW.out] at h5
    exact h5

end Go.Proofs.YtibndaianhlcaaaGreatDoor
namespace Go.Proofs.YtibndaianhlcaaaGreatDoor
open Go.RowKit Go.Sort Go.Shelf
set_option linter.unusedVariables false
set_option linter.unusedSimpArgs false

theorem grown_other {w w' : World} {row : Option Nat} {T : TypeId} (hg : w.grownBy w' row) (ht : ∀ q, row = some q → ∃ cur fr, w.heap[q]? = some (Obj.cells cur T fr)) {e : TypeId} (he : e ≠ T) :
    ∀ (k : Nat) (cur : Array Value) (fr : Nat × Nat), w.heap[k]? = some (Obj.cells cur e fr) → w'.heap[k]? = w.heap[k]? := fun k cur fr hk => by
  have hlt : k < w.heap.size := by
    rcases Nat.lt_or_ge k w.heap.size with h | h
    · exact h
    · rw [Array.getElem?_eq_none h] at hk; cases hk
  refine hg.block k hlt (fun e1 => ?_)
  obtain ⟨cur', fr', h2⟩ := ht k e1.symm
  rw [h2] at hk
  injection hk with hk
  injection hk with _ hk
  exact he hk.symm
theorem row_typed {w : World} {F : Nat → Prop} {e : TypeId} {sz : Nat} {v : Value} {n : Nat} {xs : List Value} (h : Row w F e sz v n xs) : ∀ q, v.ownBlock = some q → ∃ cur fr, w.heap[q]? = some (Obj.cells cur e fr) := fun q hq => by
  rcases h.own.2 with ⟨rfl, _⟩ | ⟨g, cap, cur, rfl, _, h2, _⟩
  · cases hq
  · injection hq with hq
    subst hq
    exact ⟨cur, (0, 0), h2⟩
theorem own_same (A : Option Addr) (n c m d : Nat) : (Value.slice A n c).ownBlock = (Value.slice A m d).ownBlock := by cases A <;> rfl
theorem mem_cut {α : Type} {us : List α} {i j : Nat} {u : α} (hu : u ∈ us.take i ++ us.drop j) : u ∈ us := by
  rcases List.mem_append.1 hu with hu | hu
  · exact List.mem_of_mem_take hu
  · exact List.mem_of_mem_drop hu
theorem srvs_erase (us : List SV) (i : Nat) : (us.take i ++ us.drop (i + 1)).map SV.srv = (us.map SV.srv).eraseIdx i := by
  rw [List.eraseIdx_eq_take_drop_succ, List.map_append, List.map_take, List.map_drop]
section
variable {w w' : World} {F : Nat → Prop} {g : Nat} {s : Mach} {fA : Option Addr} {fn fc : Nat} {es : List EV} {uA : Option Addr} {un uc : Nat} {nA : Option Addr} {nn nc : Nat} {us : List SV} {pA : Option Addr} {pn pc : Nat}
theorem set_other {w : World} {g : Nat} {T : TypeId} {cs : Array Value} (hB : Blk w g T cs) {e : TypeId} (he : e ≠ T) (i : Nat) (v : Value) : ∀ (k : Nat) (cur : Array Value) (fr : Nat × Nat), w.heap[k]? = some (Obj.cells cur e fr) → (w.setCell ⟨g, i, none⟩ v).heap[k]? = w.heap[k]? := fun k cur fr hk => by
  refine Below.heap_setCell w _ _ k (fun e1 => ?_)
  simp only at e1
  subst e1
  unfold Blk at hB
  rw [hB] at hk
  injection hk with hk
  injection hk with _ hk
  exact he hk.symm
theorem MachV.kept2 (h : MachV w F g s fA fn fc es uA un uc nA nn nc us pA pn pc) (hg : w.grownBy w' (Value.slice nA nn nc).ownBlock) : w'.cell? ⟨g, 2, none⟩ = some (.slice nA nn nc) ∧ w'.frozen? ⟨g, 2, none⟩ = false := by
  have hk := grown_other hg (row_typed h.units) (e := 53) (by decide) g _ (0, 0) h.blk
  have hB : Blk w' g 53 _ := hk.trans h.blk
  exact ⟨hB.cell 2, hB.frozen 2⟩
/-- Its units turn. -/
theorem MachV.setUnits (h : MachV w F g s fA fn fc es uA un uc nA nn nc us pA pn pc) {G : Nat → Prop} (hg : w.grownBy w' (Value.slice nA nn nc).ownBlock) (hF : ∀ k, F k → G k) {nA' : Option Addr} {nn' nc' : Nat} {us' : List SV}
    (hu : Row w' G 59 4 (.slice nA' nn' nc') nn' (us'.flatMap svCells))
    (hq : ∀ u ∈ us', u ∈ us ∨ (Row w' G 9 1 (.slice u.A u.n u.c) u.n (u.req.map encStr) ∧ Row w' G 9 1 (.slice u.A2 u.n2 u.c2) u.n2 (u.aft.map encStr) ∧ ∀ k, (Value.slice uA un uc).ownBlock = some k → (Value.slice u.A u.n u.c).ownBlock ≠ some k ∧ (Value.slice u.A2 u.n2 u.c2).ownBlock ≠ some k)) :
    MachV (w'.setCell ⟨g, 2, none⟩ (.slice nA' nn' nc')) G g ⟨s.files, s.users, us'.map SV.srv, s.plan⟩ fA fn fc es uA un uc nA' nn' nc' us' pA pn pc := by
  have ht := row_typed h.units
  have k1 : ∀ {e : TypeId}, e ≠ 59 → _ := fun {e} he => grown_other hg ht (e := e) he
  have hB : Blk w' g 53 _ := (k1 (by decide) g _ (0, 0) h.blk).trans h.blk
  have k2 : ∀ {e : TypeId}, e ≠ 53 → _ := fun {e} he => set_other hB (e := e) he 2 (.slice nA' nn' nc')
  have hs : w'.heap.size ≤ (w'.setCell ⟨g, 2, none⟩ (.slice nA' nn' nc')).heap.size := by simp [World.setCell]
  refine ⟨hB.set_ 2 _, hF _ h.foot, ((h.files.other (k1 (by decide))).other (k2 (by decide))).wide hF, h.ents, fun e he => (((h.data e he).other (k1 (by decide))).other (k2 (by decide))).wide hF, ((h.users.other (k1 (by decide))).other (k2 (by decide))).wide hF,
    hu.other (k2 (by decide)), rfl, fun u hu' => ?_, fun u hu' => ?_, ((h.plan.other hg.size (k1 (by decide))).other hs (k2 (by decide))).wide hF, fun u hu' => ?_⟩
  · rcases hq u hu' with h1 | ⟨h1, _⟩
    · exact (((h.req u h1).other (k1 (by decide))).other (k2 (by decide))).wide hF
    · exact h1.other (k2 (by decide))
  · rcases hq u hu' with h1 | ⟨_, h1, _⟩
    · exact (((h.aft u h1).other (k1 (by decide))).other (k2 (by decide))).wide hF
    · exact h1.other (k2 (by decide))
  · rcases hq u hu' with h1 | ⟨_, _, h1⟩
    · exact h.sep u h1
    · exact h1
end
/-- What a step of a machine does in memory. -/
def MachPost (w : World) (F : Nat → Prop) (g : Nat) (r : Mach × Int) : Ending → World → Prop := fun e w' => e = .returned (.int .i64 r.2) ∧ MachAt w' (Fn F w w') g r.1 ∧ Step w w' F (Fn F w w')
set_option maxRecDepth 100000 in
set_option maxHeartbeats 2000000 in
theorem stop_any {w : World} {F : Nat → Prop} {g : Nat} {s : Mach} (h : MachAt w F g s) (hn24 : s.units.length ≤ 1000000) (name : Txt) :
    Calls Tryz.prog 83 #[.pointer (some ⟨g, 2, none⟩), .string ⟨name.toArray⟩] w (MachPost w F g (doStop s name)) := by
  obtain ⟨fA, fn, fc, es, uA, un, uc, nA, nn, nc, us, pA, pn, pc, h⟩ := h
  have ha := at_any h name
  have hnl := h.nlen
  have HN := Lib.hid hnl
  have H := Lib.hid h
  cases hh : hasU s.units name with
  | false =>
    have HX := Lib.hid (show doStop s name = (s, 0) by unfold doStop; rw [if_pos hh])
    have hat : atU s.units name = -1 := by unfold atU; rw [if_neg (by rw [hh]; decide)]
    rw [hat] at ha
    clear h hh hat hnl
    go_enter Tryz.func83, Tryz.ntmps83
    go_wp2_with (go_at_call 108; refine ha.mono ?_; clear ha; rintro e w1 ⟨rfl, hb1⟩; have HB1 := Lib.hid hb1; clear hb1)
    go_ret
    rw [HX.out]
    exact ⟨rfl, ⟨fA, fn, fc, es, uA, un, uc, nA, nn, nc, us, pA, pn, pc, (H.out.below HB1.out).wide (fn_wide _ _ _)⟩, (Step.of_below HB1.out F).fn⟩
  | true =>
    obtain ⟨hi, _⟩ := idxU_at hh
    have hat : atU s.units name = (idxU s.units name : Int) := by unfold atU; rw [if_pos hh]
    rw [hat] at ha
    obtain ⟨i, hix⟩ : ∃ i, i = idxU s.units name := ⟨_, rfl⟩
    rw [← hix] at ha hi
    have hin : i < nn := by omega
    have i1 : IntKind.i64.wrap ((i : Int) + 1) = (i : Int) + 1 := IntWalk.i64_in _ (by omega)
    have hneg : ¬ (i : Int) < 0 := by omega
    cases hf : failsP s.plan with
    | true =>
      have HX := Lib.hid (show doStop s name = (⟨s.files, s.users, s.units, s.plan.tail⟩, 71) by unfold doStop; rw [if_neg (by rw [hh]; decide), if_pos hf])
      have HF := Lib.hid hf
      clear h hh hat hnl hix hf i1 hi
      go_enter Tryz.func83, Tryz.ntmps83
      go_wp2_with (first
        | (go_at_call 108; refine ha.mono ?_; clear ha; rintro e w1 ⟨rfl, hb1⟩; have HB1 := Lib.hid hb1; have hfl := fails_any (H.out.below hb1); rw [HF.out] at hfl; clear hb1)
        | (go_at_call 109; refine hfl.mono ?_; clear hfl; rintro e w2 ⟨rfl, hm2, hs2, hz2⟩; have HM2 := Lib.hid hm2; have HS2 := Lib.hid ((Step.of_below HB1.out F).trans hs2); clear hm2 hs2 hz2))
      go_ret
      rw [HX.out]
      obtain ⟨qA, qn, qc, hm⟩ := HM2.out
      exact ⟨rfl, ⟨fA, fn, fc, es, uA, un, uc, nA, nn, nc, us, qA, qn, qc, hm.wide (fn_wide _ _ _)⟩, HS2.out.fn⟩
    | false =>
      have HX := Lib.hid (show doStop s name = (⟨s.files, s.users, s.units.eraseIdx i, s.plan.tail⟩, 0) by unfold doStop; rw [if_neg (by rw [hh]; decide), if_neg (by rw [hf]; decide), hix])
      have HF := Lib.hid hf
      have hi62 : i ≤ 1000000 := by omega
      obtain ⟨j, hj⟩ : ∃ j, j = i + 1 := ⟨_, rfl⟩
      have hji : (i : Int) + 1 = (j : Int) := by omega
      have HJ := Lib.hid hj
      clear h hh hat hnl hix hf hi hn24 i1 hj
      go_enter Tryz.func83, Tryz.ntmps83
      go_wp2_with (first
        | (go_at_call 108; refine ha.mono ?_; clear ha; rintro e w1 ⟨rfl, hb1⟩; have HB1 := Lib.hid hb1; have hfl := fails_any (H.out.below hb1); rw [HF.out] at hfl; clear hb1)
        | (go_at_call 109; refine hfl.mono ?_; clear hfl; rintro e w2 ⟨rfl, hm2, hs2, hz2⟩; obtain ⟨qA, qn, qc, hm2⟩ := hm2; have m2 := hm2.facts.2.2.1; have hdl := deleteU_any hm2.units.own i j HJ.out hin; have HM2 := Lib.hid hm2; have HS2 := Lib.hid ((Step.of_below HB1.out F).trans hs2); clear hm2 hs2 hz2)
        | (go_at_call 110; go_loud (refine hdl.mono ?_; clear hdl; rintro e w3 ⟨rfl, ho3, hg3⟩; have hR3 : Row w3 F 59 4 (.slice nA (nn - 1) nc) (nn - 1) ((us.take i ++ us.drop j).flatMap svCells) := ⟨ho3, fun k hk => HM2.out.units.foot k ((own_same nA nn nc (nn - 1) nc).trans hk)⟩; have hv3 := HM2.out.setUnits hg3 (fun _ h => h) hR3 (fun u hu => .inl (mem_cut hu)); obtain ⟨hB3, hf3⟩ := HM2.out.kept2 hg3; have HV3 := Lib.hid hv3; have HG3 := Lib.hid hg3; clear ho3 hg3 hR3 hv3)))
      go_ret
      rw [HX.out]
      have hst := (HS2.out.grown HG3.out (fun k hk => .inl (HM2.out.units.foot k hk))).setCell (p := ⟨g, 2, none⟩) (.inl H.out.foot) (.slice nA (nn - 1) nc)
      have hq := HV3.out
      have he : (us.take i ++ us.drop j).map SV.srv = s.units.eraseIdx i := by rw [HJ.out, srvs_erase, H.out.srvs]
      rw [he] at hq
      exact ⟨rfl, ⟨_, _, _, _, _, _, _, _, _, _, _, _, _, _, hq.wide (fn_wide _ _ _)⟩, hst.fn⟩
end Go.Proofs.YtibndaianhlcaaaGreatDoor
