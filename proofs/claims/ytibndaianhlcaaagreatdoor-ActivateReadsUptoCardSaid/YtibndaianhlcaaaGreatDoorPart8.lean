/- machine.New, Plan, fails, at. machine.at: where a unit runs. Contracts of the library laid at this dump. machine.same: two units. -/
import Derived.Test.YtibndaianhlcaaaGreatDoorPart7
import Derived.Shelf.Slices.Equal
import Derived.Shelf.Slices.Empties2
import Derived.Shelf.Small.Strs
import Derived.Shelf.LaysM
import Derived.Ground.GgwProg
import Derived.Ground.SlgnProg
import Derived.Ground.SlgfProg
import Derived.Test.YtibndaianhlcaaaGreatDoorProg
namespace Go.Proofs.YtibndaianhlcaaaGreatDoor
open Go.RowKit Go.Sort Go.Shelf
set_option linter.unusedVariables false
set_option linter.unusedSimpArgs false

/-- All that is new belongs to it. -/
def Fn (F : Nat → Prop) (w w' : World) : Nat → Prop := fun k => F k ∨ (w.heap.size ≤ k ∧ k < w'.heap.size)
theorem fn_wide (F : Nat → Prop) (w w' : World) : ∀ k, F k → Fn F w w' k := fun _ h => .inl h
theorem Step.fn {w w' : World} {F G : Nat → Prop} (h : Step w w' F G) : Step w w' F (Fn F w w') := ⟨h.os, h.tape, h.output, h.size, h.block, fun k hk => by rcases hk with h1 | h1; exact .inl h1; exact .inr h1.1⟩
section
variable {w w' : World} {F : Nat → Prop} {g : Nat} {s : Mach} {fA : Option Addr} {fn fc : Nat} {es : List EV} {uA : Option Addr} {un uc : Nat} {nA : Option Addr} {nn nc : Nat} {us : List SV} {pA : Option Addr} {pn pc : Nat}
theorem MachV.wide {G : Nat → Prop} (h : MachV w F g s fA fn fc es uA un uc nA nn nc us pA pn pc) (hg : ∀ k, F k → G k) : MachV w G g s fA fn fc es uA un uc nA nn nc us pA pn pc :=
  ⟨h.blk, hg _ h.foot, h.files.wide hg, h.ents, fun e he => (h.data e he).wide hg, h.users.wide hg, h.units.wide hg, h.srvs, fun u hu => (h.req u hu).wide hg, fun u hu => (h.aft u hu).wide hg, h.plan.wide hg, h.sep⟩
theorem MachV.setPlan (h : MachV w F g s fA fn fc es uA un uc nA nn nc us pA pn pc) {A : Option Addr} {n c : Nat} {p : List Bool} (hp : Cut w F 4 A n c (p.map bl)) :
    MachV (w.setCell ⟨g, 3, none⟩ (.slice A n c)) F g ⟨s.files, s.users, s.units, p⟩ fA fn fc es uA un uc nA nn nc us A n c := by
  obtain ⟨h1, h2, h3, h4, h5, h6, _⟩ := h.cells (p := ⟨g, 3, none⟩) rfl (.slice A n c)
  refine ⟨h.blk.set_ 3 _, h.foot, h1, h.ents, h2, h3, h4, h.srvs, h5, h6, ?_, h.sep⟩
  refine hp.other (by simp [World.setCell]) fun k cur fr hk => ?_
  refine Below.heap_setCell w _ _ k (fun e1 => ?_)
  simp only at e1
  subst e1
  have hB := h.blk
  unfold Blk at hB
  rw [hB] at hk
  injection hk with hk
  injection hk with _ hk
  exact absurd hk (by decide)
theorem MachV.facts (h : MachV w F g s fA fn fc es uA un uc nA nn nc us pA pn pc) : w.cell? ⟨g, 0, none⟩ = some (.slice fA fn fc) ∧ w.cell? ⟨g, 1, none⟩ = some (.slice uA un uc) ∧ w.cell? ⟨g, 2, none⟩ = some (.slice nA nn nc) ∧ w.cell? ⟨g, 3, none⟩ = some (.slice pA pn pc) ∧ ∀ i, w.frozen? ⟨g, i, none⟩ = false :=
  ⟨h.blk.cell 0, h.blk.cell 1, h.blk.cell 2, h.blk.cell 3, h.blk.frozen⟩
end
theorem new_any (w : World) : Calls Tryz.prog 20 #[] w fun e w' => e = .returned (.pointer (some ⟨w.heap.size, 0, none⟩)) ∧ MachAt w' (fun k => k = w.heap.size) w.heap.size newM ∧ Below w.heap.size w w' := by
  have hb := (Below.refl w.heap.size w).alloc (Nat.le_refl _) (.cells #[.slice none 0 0, .slice none 0 0, .slice none 0 0, .slice none 0 0] 53)
  have hB := Blk.new w 53 #[.slice none 0 0, .slice none 0 0, .slice none 0 0, .slice none 0 0]
  go_enter Tryz.func20, Tryz.ntmps20
  go_wp2_with (fail)
  go_ret
  exact ⟨rfl, ⟨none, 0, 0, [], none, 0, 0, none, 0, 0, [], none, 0, 0, hB, rfl, Row.nil _ _ _ _, rfl, (fun e he => by cases he), Row.nil _ _ _ _, Row.nil _ _ _ _, rfl, (fun u hu => by cases hu), (fun u hu => by cases hu), Cut.nil _ _ _, fun u hu => by cases hu⟩, hb⟩
theorem bool_info : (Tryz.prog.info? 4).map (fun i => (i.zero, i.size, i.bytes)) = some (some (.bool false), 1, 1) := by kernel_rfl
theorem bls_one (l : List Bool) : ∀ u ∈ l.map bl, u.oneCell' = true := by
  intro u hu
  obtain ⟨c, _, rfl⟩ := List.mem_map.1 hu
  rfl
set_option maxRecDepth 100000 in
set_option maxHeartbeats 1000000 in
theorem plan_any {w : World} {F : Nat → Prop} {g : Nat} {s : Mach} (h : MachAt w F g s) {B : Nat} {A : Option Addr} {n c : Nat} {p : List Bool} (hp : Slc w B 1 A n c (p.map bl)) (hB : B ≤ w.heap.size) (hn : n ≤ 1000000000) :
    Calls Tryz.prog 21 #[.pointer (some ⟨g, 2, none⟩), .slice A n c] w fun e w' => e = .returned (.tuple #[]) ∧ MachAt w' (Fn F w w') g ⟨s.files, s.users, s.units, p⟩ ∧ Step w w' F (Fn F w w') := by
  obtain ⟨fA, fn, fc, es, uA, un, uc, nA, nn, nc, us, pA, pn, pc, h⟩ := h
  have ho0 : (w.alloc (.cells #[] 4)).ownsRow w.heap.size 4 1 (.slice (some ⟨w.heap.size, 0, none⟩) 0 0) 0 [] := World.ownsRow_made w #[] 0 (Nat.le_refl _) (Nat.zero_le _) rfl
  have hb1 : Below w.heap.size w (w.alloc (.cells #[] 4)) := (Below.refl _ w).alloc (Nat.le_refl _) _
  obtain ⟨i, hi, hz0, hz1, hz2⟩ := info_parts bool_info
  obtain ⟨A2, c2, w2, hr, ho, hg, _⟩ := append_slc (P := Tryz.prog) (w.alloc (.cells #[] 4)) w.heap.size 41 41 4 i _ 1 1 Tryz.underlying41 hi hz0 hz1 hz2 rfl (by decide) _ 0 [] ho0 B A n c (p.map bl) (hp.below (hb1.mono hB)) (bls_one p) (by unfold maxLen; omega) (by omega) (by simp)
  rw [Nat.zero_add, List.nil_append] at ho
  rw [Nat.zero_add] at hr
  have hb2 : Below w.heap.size w w2 := grown_below hb1 ho0 (by simp) hg
  have h2 := h.below hb2
  have hR : Row w2 (Fn F w w2) 4 1 (.slice A2 n c2) n (p.map bl) := ⟨⟨ho.1, ho.2.imp id fun ⟨g', cap, cur, e, _, r⟩ => ⟨g', cap, cur, e, Nat.zero_le _, r⟩⟩, fun k hk => .inr (ho.lt k hk)⟩
  have h3 := (h2.wide (fn_wide F w w2)).setPlan (Cut.of_row hR)
  obtain ⟨_, _, _, m3, mf⟩ := h2.facts
  have mf3 := mf 3
  have HV := Lib.hid h3
  have hst : Step w (w2.setCell ⟨g, 3, none⟩ (.slice A2 n c2)) F F := (Step.of_below hb2 F).setCell (p := ⟨g, 3, none⟩) (.inl h.foot) _
  have HS := Lib.hid hst.fn
  have hsz : (w2.setCell ⟨g, 3, none⟩ (.slice A2 n c2)).heap.size = w2.heap.size := by simp [World.setCell]
  have HE := Lib.hid (show Fn F w (w2.setCell ⟨g, 3, none⟩ (.slice A2 n c2)) = Fn F w w2 by unfold Fn; rw [hsz])
  clear h h2 h3 hR ho hg hb1 hb2 ho0 mf hst hsz hp
  go_enter Tryz.func21, Tryz.ntmps21
  go_wp2_with (at_builtin; refine wpList_append_run rfl _ _ _ rfl rfl rfl hr ?_; clear hr)
  go_end0
  exact ⟨rfl, ⟨fA, fn, fc, es, uA, un, uc, nA, nn, nc, us, A2, n, c2, by rw [HE.out]; exact HV.out⟩, HS.out⟩
theorem plan_head {w : World} {F : Nat → Prop} {A : Option Addr} {n c : Nat} {b : Bool} {p : List Bool} (h : Cut w F 4 A n c ((b :: p).map bl)) : ∃ q off, A = some ⟨q, off, none⟩ ∧ 0 < n ∧ w.cell? ⟨q, off, none⟩ = some (.bool b) ∧
    (c ≠ 1 → Cut w F 4 (some ⟨q, off + 1, none⟩) (n - 1) (c - 1) (p.map bl)) ∧ (c = 1 → Cut w F 4 (some ⟨q, off, none⟩) (n - 1) (c - 1) (p.map bl)) := by
  have hl := h.slc.len
  simp at hl
  obtain ⟨q, off, e, hq, hc⟩ := h.slc.at_ (by omega)
  have h0 := hc 0 (.bool b) rfl
  have hle := h.slc.le
  refine ⟨q, off, e, by omega, h0, fun hc1 => ⟨⟨by simp; omega, by omega, by have := h.slc.cmax; omega, fun hn => ⟨q, off + 1, rfl, hq, fun j u hu => ?_⟩⟩, fun hn => ?_⟩, fun hc1 => ?_⟩
  · have := hc (j + 1) u (by simpa using hu)
    rwa [show off + 1 + j = off + (j + 1) by omega]
  · obtain ⟨b', off', cur, fr, e2, hF, hB⟩ := h.at_ (by omega)
    rw [e] at e2
    injection e2 with e2
    injection e2 with e2 e3
    subst e2
    exact ⟨q, off + 1, cur, fr, rfl, hF, hB⟩
  · have hp0 : p = [] := List.eq_nil_of_length_eq_zero (by omega)
    subst hp0
    exact ⟨⟨by simp; omega, by omega, by omega, fun hn => by omega⟩, fun hn => by omega⟩
set_option maxRecDepth 100000 in
set_option maxHeartbeats 1000000 in
theorem fails_any {w : World} {F : Nat → Prop} {g : Nat} {s : Mach} {fA : Option Addr} {fn fc : Nat} {es : List EV} {uA : Option Addr} {un uc : Nat} {nA : Option Addr} {nn nc : Nat} {us : List SV} {pA : Option Addr} {pn pc : Nat} (h : MachV w F g s fA fn fc es uA un uc nA nn nc us pA pn pc) :
    Calls Tryz.prog 109 #[.pointer (some ⟨g, 2, none⟩)] w fun e w' => e = .returned (.bool (failsP s.plan)) ∧ (∃ qA qn qc, MachV w' F g ⟨s.files, s.users, s.units, s.plan.tail⟩ fA fn fc es uA un uc nA nn nc us qA qn qc) ∧ Step w w' F F ∧ w'.heap.size = w.heap.size := by
  obtain ⟨f, u, n, pl⟩ := s
  cases pl with
  | nil =>
    have hp0 : pn = 0 := by have := h.plen; simpa using this.symm
    subst hp0
    obtain ⟨_, _, _, m3, _⟩ := h.facts
    have H := Lib.hid h
    clear h
    go_enter Tryz.func109, Tryz.ntmps109
    go_wp2_with (fail)
    go_ret
    exact ⟨rfl, ⟨_, _, _, H.out⟩, Step.refl _ _, rfl⟩
  | cons b p =>
    obtain ⟨q, off, rfl, hn, c0, k1, k2⟩ := plan_head h.plan
    obtain ⟨_, _, _, m3, mf⟩ := h.facts
    have mf3 := mf 3
    have hpc : pn ≤ pc := h.plan.slc.le
    have hn0 : ¬ pn = 0 := by omega
    have hneq : ((pn : Int) == 0) = false := by rw [beq_eq_false_iff_ne]; omega
    have h1c : (1 : Int) ≤ (pn : Int) := by omega
    have h1p : 1 ≤ pn := by omega
    have hc62 : pc ≤ 9223372036854775807 := by have := h.plan.slc.cmax; unfold maxLen at this; omega
    have HST := Lib.hid (fun v => (Step.refl w F).setCell (p := ⟨g, 3, none⟩) (.inl h.foot) v)
    by_cases hc1 : pc = 1
    · have HV := Lib.hid (h.setPlan (k2 hc1))
      subst hc1
      obtain rfl : pn = 1 := by omega
      clear h k1 k2 mf
      go_enter Tryz.func109, Tryz.ntmps109
      go_wp2_with (fail)
      go_ret
      exact ⟨rfl, ⟨_, _, _, HV.out⟩, HST.out _, by simp [World.setCell]⟩
    · have HV := Lib.hid (h.setPlan (k1 hc1))
      have hc1' : ¬ 1 = pc := fun e => hc1 e.symm
      clear h k1 k2 mf
      go_enter Tryz.func109, Tryz.ntmps109
      go_wp2_with (fail)
      go_ret
      exact ⟨rfl, ⟨_, _, _, HV.out⟩, HST.out _, by simp [World.setCell]⟩
end Go.Proofs.YtibndaianhlcaaaGreatDoor
namespace Go.Proofs.YtibndaianhlcaaaGreatDoor
open Go.RowKit Go.Sort Go.Shelf
set_option linter.unusedVariables false
set_option linter.unusedSimpArgs false

def svArr (u : SV) : Array Value := #[.string ⟨u.name.toArray⟩, .string ⟨u.start.toArray⟩, .slice u.A u.n u.c, .slice u.A2 u.n2 u.c2]
theorem predU_any (u : SV) (name : Txt) (bn : Nat) (w : World) (hbn : w.cell? ⟨bn, 0, none⟩ = some (.string ⟨name.toArray⟩)) :
    Calls Tryz.prog 133 #[.agg (svArr u), .pointer (some ⟨bn, 0, none⟩)] w fun e w' => e = .returned (.bool (decide (u.name = name))) ∧ Below w.heap.size w w' := by
  have hlt : bn < w.heap.size := World.block_lt_of_cell? _ _ hbn
  have hb := (Below.refl w.heap.size w).alloc (Nat.le_refl _) (.cells (svArr u) 59)
  have t1 : (ByteArray.mk u.name.toArray).toList = u.name := Go.ByteArray.toList_eq _
  have t2 : (ByteArray.mk name.toArray).toList = name := Go.ByteArray.toList_eq _
  unfold svArr at hb ⊢
  obtain ⟨un, us, ur, uA, un1, uc1, ua, uA2, un2, uc2⟩ := u
  simp only at t1 hb ⊢
  cases h : (un == name) with
  | true =>
    have H := Lib.hid (show un = name by simpa using h)
    go_enter Tryz.func133, Tryz.ntmps133
    go_wp2
    go_ret
    exact ⟨by rw [decide_eq_true H.out]; rfl, hb⟩
  | false =>
    have H := Lib.hid (show ¬ un = name by simpa using h)
    go_enter Tryz.func133, Tryz.ntmps133
    go_wp2
    go_ret
    exact ⟨by rw [decide_eq_false H.out]; rfl, hb⟩
def atU (l : List Srv) (n : Txt) : Int := if hasU l n = true then (idxU l n : Int) else -1
set_option maxRecDepth 100000 in
set_option maxHeartbeats 1000000 in
theorem idxU_any {w : World} {B : Nat} {A : Option Addr} {n c : Nat} {us : List SV} (h : UnitsAt w B A n c us) (hB : B ≤ w.heap.size) (name : Txt) (bn : Nat) (hbn : w.cell? ⟨bn, 0, none⟩ = some (.string ⟨name.toArray⟩)) :
    Calls Tryz.prog 82 #[.slice A n c, .func (.func 133) #[] #[.pointer (some ⟨bn, 0, none⟩)]] w fun e w' => e = .returned (.int .i64 (atU (us.map SV.srv) name)) ∧ Below w.heap.size w w' := by
  have hn62 : n ≤ 9223372036854775807 := by have := h.slc.le; have := h.slc.cmax; unfold maxLen at this; omega
  have hbl : bn < w.heap.size := World.block_lt_of_cell? _ _ hbn
  have H := Lib.hid h
  have HL := Lib.hid h.len
  clear h
  go_enter Tryz.func82, Tryz.ntmps82
  go_wp2_with (fail)
  go_loopw [8] (fun i wr => ∃ k : Nat, k ≤ n ∧ i = .int .i64 (k : Int) ∧ Aside (∀ i (hi : i < (us.map SV.srv).length), i < k → (us.map SV.srv)[i].name ≠ name) ∧ Aside (Below w.heap.size w wr)) (fun i _ => n - (intOf i).toNat)
  case atStart => exact ⟨0, Nat.zero_le _, rfl, fun i _ h => absurd h (Nat.not_lt_zero _), Below.refl _ _⟩
  case round =>
    obtain ⟨k, hk, rfl, hno, hb⟩ := hrel
    by_cases hlt : k < n
    · obtain ⟨b, off, rfl, hbB, hl, c0, c1, c2, c3, _, _⟩ := (H.out.below (hb.out.mono hB)).at_ hlt
      have hp := predU_any us[k] name bn wr ((hb.out.cell (p := ⟨bn, 0, none⟩) hbl).trans hbn)
      have hkm : k < (us.map SV.srv).length := by simpa using hl
      have hnm : (us.map SV.srv)[k].name = us[k].name := by simp [SV.srv]
      by_cases hhit : us[k].name = name
      · have HA := Lib.hid (idxU_eq (l := us.map SV.srv) hkm (hnm.trans hhit) (fun i hi hik => hno.out i hi hik))
        rw [decide_eq_true hhit] at hp
        clear hhit hnm hkm
        unfold svArr at hp
        generalize us[k] = u at *
        obtain ⟨un, ust, ur, uA, un1, uc1, ua, uA2, un2, uc2⟩ := u
        simp only at hp c0 c1 c2 c3
        go_wp2_with (go_at_call 133; refine hp.mono ?_; clear hp; rintro e2 w2 ⟨rfl, hb2⟩)
        go_ret
        exact ⟨by unfold atU; rw [if_pos HA.out.2, HA.out.1]; rfl, hb.out.trans (hb2.mono hb.out.size)⟩
      · have HN := Lib.hid (show ∀ i (hi : i < (us.map SV.srv).length), i < k + 1 → (us.map SV.srv)[i].name ≠ name from fun i hi hik => by
          rcases Nat.lt_or_ge i k with h1 | h1
          · exact hno.out i hi h1
          · obtain rfl : i = k := by omega
            rw [hnm]
            exact hhit)
        rw [decide_eq_false hhit] at hp
        clear hhit hnm hkm
        unfold svArr at hp
        generalize us[k] = u at *
        obtain ⟨un, ust, ur, uA, un1, uc1, ua, uA2, un2, uc2⟩ := u
        simp only at hp c0 c1 c2 c3
        go_wp2_with (go_at_call 133; refine hp.mono ?_; clear hp; rintro e2 w2 ⟨rfl, hb2⟩)
        exact ⟨⟨k + 1, by omega, by go_num, HN.out, hb.out.trans (hb2.mono hb.out.size)⟩, by simp [intOf]; omega⟩
    · have HF := Lib.hid (hasU_none (l := us.map SV.srv) (n := name) fun i hi => hno.out i hi (by have := HL.out; simp at hi; omega))
      go_wp2_with (fail)
      go_ret
      exact ⟨by unfold atU; rw [if_neg (by rw [HF.out]; decide)]; rfl, hb.out⟩
theorem MachV.unitsAt {w : World} {F : Nat → Prop} {g : Nat} {s : Mach} {fA : Option Addr} {fn fc : Nat} {es : List EV} {uA : Option Addr} {un uc : Nat} {nA : Option Addr} {nn nc : Nat} {us : List SV} {pA : Option Addr} {pn pc : Nat} (h : MachV w F g s fA fn fc es uA un uc nA nn nc us pA pn pc) : UnitsAt w w.heap.size nA nn nc us :=
  ⟨h.units.slc', h.nlen.1, fun u hu => (h.req u hu).slc', fun u hu => (h.aft u hu).slc'⟩
set_option maxRecDepth 100000 in
theorem at_any {w : World} {F : Nat → Prop} {g : Nat} {s : Mach} {fA : Option Addr} {fn fc : Nat} {es : List EV} {uA : Option Addr} {un uc : Nat} {nA : Option Addr} {nn nc : Nat} {us : List SV} {pA : Option Addr} {pn pc : Nat} (h : MachV w F g s fA fn fc es uA un uc nA nn nc us pA pn pc) (name : Txt) :
    Calls Tryz.prog 108 #[.pointer (some ⟨g, 2, none⟩), .string ⟨name.toArray⟩] w fun e w' => e = .returned (.int .i64 (atU s.units name)) ∧ Below w.heap.size w w' := by
  have hb1 : Below w.heap.size w (w.alloc (.cells #[.string ⟨name.toArray⟩] 9)) := (Below.refl _ w).alloc (Nat.le_refl _) _
  have h1 := h.below hb1
  have hx := idxU_any (h.unitsAt.below hb1) (by simp) name w.heap.size (World.cell?_alloc_mark w _ _ _ 0)
  rw [h.srvs] at hx
  have m2 := h1.facts.2.2.1
  have HB1 := Lib.hid hb1
  clear h h1 hb1
  go_enter Tryz.func108, Tryz.ntmps108
  go_wp2_with (go_at_call 82; refine hx.mono ?_; clear hx; rintro e2 w2 ⟨rfl, hb2⟩)
  go_ret
  exact ⟨rfl, HB1.out.trans (hb2.mono HB1.out.size)⟩
end Go.Proofs.YtibndaianhlcaaaGreatDoor
namespace Go.Proofs
open Go.Shelf
def Tryz.lays106_ren : Go.Shelf.Ren := ⟨fun | 106 => 114 | 213 => 134 | 265 => 156 | n => n, fun | 9 => 9 | 3 => 3 | n => n, fun | n => n⟩
theorem Tryz.lays106 : Go.Proofs.Lays.n106 Tryz.prog Tryz.lays106_ren := {
  mixed := by kernel_rfl
  f106 := Tryz.func114.trans (congrArg some (by kernel_rfl))
  f213 := Tryz.func134.trans (congrArg some (by kernel_rfl))
  f265 := Tryz.func156.trans (congrArg some (by kernel_rfl))
  t3 := Tryz.underlying3
  a3 := Tryz.isAgg3
  z3 := Tryz.sizeOf3
  v3 := Tryz.zeroValue3
  t9 := Tryz.underlying9
  a9 := Tryz.isAgg9
  z9 := Tryz.sizeOf9
  v9 := Tryz.zeroValue9 }
open Go.RowKit in
/-- strings.Compare: "Compare returns an integer comparing two strings lexicographically. The result will be 0 if a == b, -1 if a < b, and +1 if a > b.": IT RETURNS 'Lib.compareBytes a b'; the world is as it was. (LAID: no walk: one application.) -/
theorem Tryz.strings_Compare (a b : ByteArray) (w : World) :
    Calls Tryz.prog 114 #[.string a, .string b] w fun e w' => e = .returned (.int .i64 (Lib.compareBytes a.data.toList b.data.toList)) ∧ w' = w := Any.strings_Compare Tryz.lays106 a b w
def Tryz.lays193_ren : Go.Shelf.Ren := ⟨fun | 193 => 49 | n => n, fun | 31 => 23 | 9 => 9 | 4 => 4 | 3 => 3 | 0 => 0 | n => n, fun | n => n⟩
theorem Tryz.lays193 : Go.Proofs.Lays.n193 Tryz.prog Tryz.lays193_ren := {
  mixed := by kernel_rfl
  f193 := Tryz.func49.trans (congrArg some (by kernel_rfl))
  t0 := Tryz.underlying0
  a0 := Tryz.isAgg0
  z0 := Tryz.sizeOf0
  v0 := Tryz.zeroValue0
  t3 := Tryz.underlying3
  a3 := Tryz.isAgg3
  z3 := Tryz.sizeOf3
  v3 := Tryz.zeroValue3
  t4 := Tryz.underlying4
  a4 := Tryz.isAgg4
  z4 := Tryz.sizeOf4
  v4 := Tryz.zeroValue4
  t9 := Tryz.underlying9
  a9 := Tryz.isAgg9
  z9 := Tryz.sizeOf9
  v9 := Tryz.zeroValue9
  t31 := Tryz.underlying23
  a31 := Tryz.isAgg23
  z31 := Tryz.sizeOf23
  v31 := Tryz.zeroValue23 }
open Go.RowKit Go.Lib in
/-- slices.Equal at []string: "Equal reports whether two slices are equal: the same length and all elements equal. If the lengths are different, Equal returns false. Otherwise, the elements are compared in increasing index order, and the comparison stops at the first unequal pair. Empty and nil slices are considered equal.": IT RETURNS WHETHER THE TWO LISTS OF ELEMENTS ARE ONE; the world is as it was but for the count of draws (the test 's1[i] != s2[i]' has two reads, whose order the model draws, once a round). 'xs', 'ys': what the cells behind the two addresses hold (the spare capacity too, if you have it); 'xs.take n', 'ys.take m': the elements. THE TWO SLICES MAY OVERLAP. (LAID: no walk: one application.) -/
theorem Tryz.slices_Equal_string (b1 o1 n c b2 o2 m d : Nat) (xs ys : List ByteArray) (w : World) (hx : n ≤ xs.length) (hy : m ≤ ys.length) (hbig : n ≤ 9223372036854775807) (hbig2 : m ≤ 9223372036854775807) (hc1 : ∀ j, j < xs.length → w.cell? ⟨b1, o1 + j, none⟩ = some (.string (xs.getD j ByteArray.empty))) (hc2 : ∀ j, j < ys.length → w.cell? ⟨b2, o2 + j, none⟩ = some (.string (ys.getD j ByteArray.empty))) :
    Calls Tryz.prog 49 #[.slice (some ⟨b1, o1, none⟩) n c, .slice (some ⟨b2, o2, none⟩) m d] w fun e w' => e = .returned (.bool (decide (xs.take n = ys.take m))) ∧ ∃ q, w' = w.drewN q := Any.slices_Equal_string Tryz.lays193 b1 o1 n c b2 o2 m d xs ys w hx hy hbig hbig2 hc1 hc2
open Go.RowKit Go.Lib in
/-- The same where the first is of length 0 (a nil one too): no cell is asked for. (LAID: no walk: one application.) -/
theorem Tryz.slices_Equal_string_empty (a1 a2 : Option Addr) (c m d : Nat) (w : World) (hbig2 : m ≤ 9223372036854775807) :
    Calls Tryz.prog 49 #[.slice a1 0 c, .slice a2 m d] w fun e w' => e = .returned (.bool (decide (m = 0))) ∧ w' = w := Any.slices_Equal_string_empty Tryz.lays193 a1 a2 c m d w hbig2
open Go.RowKit Go.Lib in
theorem Tryz.slices_Equal_string_lens (a1 a2 : Option Addr) (n c m d : Nat) (w : World) (hnm : n ≠ m) :
    Calls Tryz.prog 49 #[.slice a1 n c, .slice a2 m d] w fun e w' => e = .returned (.bool false) ∧ w' = w := Any.slices_Equal_string_lens Tryz.lays193 a1 a2 n c m d w hnm
end Go.Proofs
namespace Go.Proofs.YtibndaianhlcaaaGreatDoor
open Go.RowKit Go.Sort Go.Shelf
set_option linter.unusedVariables false
set_option linter.unusedSimpArgs false

def bytesOf (t : Txt) : ByteArray := ⟨t.toArray⟩
theorem bytesOf_inj {a b : Txt} (h : bytesOf a = bytesOf b) : a = b := by
  have := congrArg (fun x : ByteArray => x.data.toList) h
  simpa [bytesOf] using this
theorem bytesOf_map_inj {l k : List Txt} : l.map bytesOf = k.map bytesOf ↔ l = k := by
  constructor
  · intro h
    induction l generalizing k with
    | nil => cases k with
      | nil => rfl
      | cons b k => simp at h
    | cons a l ih => cases k with
      | nil => simp at h
      | cons b k =>
        simp only [List.map_cons, List.cons.injEq] at h
        rw [bytesOf_inj h.1, ih h.2]
  · rintro rfl; rfl
theorem slc_strs {w : World} {B : Nat} {A : Option Addr} {n c : Nat} {l : List Txt} (h : Slc w B 1 A n c (l.map encStr)) (hn : 0 < n) : ∃ b off, A = some ⟨b, off, none⟩ ∧ ∀ j, j < (l.map bytesOf).length → w.cell? ⟨b, off + j, none⟩ = some (.string ((l.map bytesOf).getD j ByteArray.empty)) := by
  obtain ⟨b, off, e, _, hc⟩ := h.at_ hn
  refine ⟨b, off, e, fun j hj => ?_⟩
  rw [List.length_map] at hj
  have h1 := hc j (encStr l[j]) (by rw [List.getElem?_map, List.getElem?_eq_getElem hj]; rfl)
  rw [h1]
  simp [List.getD, hj, bytesOf, encStr]
theorem eqS_any {w : World} {B1 B2 : Nat} {A1 A2 : Option Addr} {n c m d : Nat} {l k : List Txt} (h1 : Slc w B1 1 A1 n c (l.map encStr)) (h2 : Slc w B2 1 A2 m d (k.map encStr)) :
    Calls Tryz.prog 49 #[.slice A1 n c, .slice A2 m d] w fun e w' => e = .returned (.bool (decide (l = k))) ∧ ∃ q, w' = w.drewN q := by
  have hl : l.length = n := by have := h1.len; simpa using this
  have hk : k.length = m := by have := h2.len; simpa using this
  have b1 : n ≤ 9223372036854775807 := by have := h1.le; have := h1.cmax; unfold maxLen at this; omega
  have b2 : m ≤ 9223372036854775807 := by have := h2.le; have := h2.cmax; unfold maxLen at this; omega
  by_cases hnm : n = m
  · subst hnm
    rcases Nat.eq_zero_or_pos n with h0 | h0
    · subst h0
      refine (Tryz.slices_Equal_string_empty A1 A2 c 0 d w (by omega)).mono ?_
      rintro e w' ⟨rfl, rfl⟩
      refine ⟨?_, 0, rfl⟩
      rw [List.eq_nil_of_length_eq_zero hl, List.eq_nil_of_length_eq_zero hk]
      rfl
    · obtain ⟨p1, o1, rfl, c1⟩ := slc_strs h1 h0
      obtain ⟨p2, o2, rfl, c2⟩ := slc_strs h2 h0
      refine (Tryz.slices_Equal_string p1 o1 n c p2 o2 n d (l.map bytesOf) (k.map bytesOf) w (by simp; omega) (by simp; omega) b1 b2 c1 c2).mono ?_
      rintro e w' ⟨rfl, hq⟩
      refine ⟨?_, hq⟩
      rw [List.take_of_length_le (by simp; omega), List.take_of_length_le (by simp; omega)]
      congr 2
      exact decide_eq_decide.2 bytesOf_map_inj
  · refine (Tryz.slices_Equal_string_lens A1 A2 n c m d w hnm).mono ?_
    rintro e w' ⟨rfl, rfl⟩
    refine ⟨?_, 0, rfl⟩
    rw [decide_eq_false (by rintro rfl; omega)]
theorem bel_drewN {B : Nat} {w w' : World} (h : Below B w w') (q : Nat) : Below B w (w'.drewN q) := ⟨h.os, h.tape, h.output, h.size, h.block⟩
set_option maxRecDepth 100000 in
set_option maxHeartbeats 1000000 in
theorem same_any20 {w : World} {B : Nat} (a b : SV) (a1 : Slc w B 1 a.A a.n a.c (a.req.map encStr)) (a2 : Slc w B 1 a.A2 a.n2 a.c2 (a.aft.map encStr)) (b1 : Slc w B 1 b.A b.n b.c (b.req.map encStr)) (b2 : Slc w B 1 b.A2 b.n2 b.c2 (b.aft.map encStr)) (hB : B ≤ w.heap.size) :
    Calls Tryz.prog 119 #[.agg (svArr a), .agg (svArr b)] w fun e w' => e = .returned (.bool (decide (a.srv = b.srv))) ∧ Below w.heap.size w w' := by
  obtain ⟨an, asx, ar, aA, an1, ac1, aa, aA2, an2, ac2⟩ := a
  obtain ⟨bn, bsx, br, bA, bn1, bc1, ba, bA2, bn2, bc2⟩ := b
  simp only at a1 a2 b1 b2
  have hb1 : Below w.heap.size w ((w.alloc (.cells #[.string ⟨an.toArray⟩, .string ⟨asx.toArray⟩, .slice aA an1 ac1, .slice aA2 an2 ac2] 59)).alloc (.cells #[.string ⟨bn.toArray⟩, .string ⟨bsx.toArray⟩, .slice bA bn1 bc1, .slice bA2 bn2 bc2] 59)) := ((Below.refl _ w).alloc (Nat.le_refl _) _).alloc (by simp) _
  have he1 := eqS_any (a1.below (hb1.mono hB)) (b1.below (hb1.mono hB))
  have he2 : ∀ q, _ := fun q => eqS_any (a2.below (bel_drewN (hb1.mono hB) q)) (b2.below (bel_drewN (hb1.mono hB) q))
  have HB1 := Lib.hid hb1
  have HE2 := Lib.hid he2
  have HS := Lib.hid (show ((⟨an, asx, ar, aa⟩ : Srv) = ⟨bn, bsx, br, ba⟩) ↔ (an = bn ∧ asx = bsx ∧ ar = br ∧ aa = ba) by simp)
  have t1 : (ByteArray.mk an.toArray).toList = an := Go.ByteArray.toList_eq _
  have t2 : (ByteArray.mk bn.toArray).toList = bn := Go.ByteArray.toList_eq _
  have t3 : (ByteArray.mk asx.toArray).toList = asx := Go.ByteArray.toList_eq _
  have t4 : (ByteArray.mk bsx.toArray).toList = bsx := Go.ByteArray.toList_eq _
  clear a1 a2 b1 b2 hb1 he2
  show Calls _ _ _ _ fun e w' => e = .returned (.bool (decide ((⟨an, asx, ar, aa⟩ : Srv) = ⟨bn, bsx, br, ba⟩))) ∧ Below w.heap.size w w'
  unfold svArr
  cases h1 : (an == bn) with
  | false =>
    have H := Lib.hid (show decide ((⟨an, asx, ar, aa⟩ : Srv) = ⟨bn, bsx, br, ba⟩) = false from decide_eq_false (fun h => by have := (HS.out.1 h).1; simp [this] at h1))
    go_enter Tryz.func119, Tryz.ntmps119
    go_wp2
    go_ret
    exact ⟨by rw [H.out]; rfl, HB1.out⟩
  | true =>
    cases h2 : (asx == bsx) with
    | false =>
      have H := Lib.hid (show decide ((⟨an, asx, ar, aa⟩ : Srv) = ⟨bn, bsx, br, ba⟩) = false from decide_eq_false (fun h => by have := (HS.out.1 h).2.1; simp [this] at h2))
      go_enter Tryz.func119, Tryz.ntmps119
      go_wp2
      go_ret
      exact ⟨by rw [H.out]; rfl, HB1.out⟩
    | true =>
      cases h3 : decide (ar = br) with
      | false =>
        have H := Lib.hid (show decide ((⟨an, asx, ar, aa⟩ : Srv) = ⟨bn, bsx, br, ba⟩) = false from decide_eq_false (fun h => by have := (HS.out.1 h).2.2.1; simp [this] at h3))
        rw [h3] at he1
        go_enter Tryz.func119, Tryz.ntmps119
        go_wp2_with (go_at_call 49; refine he1.mono ?_; clear he1; rintro e w1 ⟨rfl, q, rfl⟩)
        go_ret
        exact ⟨by rw [H.out]; rfl, bel_drewN HB1.out q⟩
      | true =>
        have H := Lib.hid (show decide ((⟨an, asx, ar, aa⟩ : Srv) = ⟨bn, bsx, br, ba⟩) = decide (aa = ba) from decide_eq_decide.2 ⟨fun h => (HS.out.1 h).2.2.2, fun h => HS.out.2 ⟨by simpa using h1, by simpa using h2, of_decide_eq_true h3, h⟩⟩)
        rw [h3] at he1
        go_enter Tryz.func119, Tryz.ntmps119
        go_wp2_with (go_at_call 49; first
          | (refine he1.mono ?_; clear he1; rintro e w1 ⟨rfl, q, rfl⟩; have he2 := HE2.out q)
          | (refine he2.mono ?_; clear he2; rintro e w2 ⟨rfl, q2, rfl⟩))
        go_ret
        exact ⟨by rw [H.out]; rfl, bel_drewN HB1.out _⟩
end Go.Proofs.YtibndaianhlcaaaGreatDoor
