/- Results that are structs; stores beside what is owned. machine.New, Plan, fails, at. Rows that are put together out of parts of others: append(append(append([]T{}, l[:k]...), x), l[j:]...), whatever T is, in whatever order its parts are made. machine.at: where a unit runs. Contracts of the library laid at this dump. -/
import Derived.Test.YtibndaianhlcaaaDoorPart3
import Derived.Test.YtibndaianhlcaaaDoorPart7
import Derived.Test.YtibndaianhlcaaaDoorPart4
import Derived.Test.YtibndaianhlcaaaDoorPart6
import Derived.Shelf.Slices.Equal
import Derived.Shelf.Slices.Empties2
import Derived.Shelf.Small.Strs
import Derived.Shelf.LaysM
import Derived.Ground.GgwProg
import Derived.Ground.SlgnProg
import Derived.Ground.SlgfProg
import Derived.Test.YtibndaianhlcaaaDoorProg
namespace Go.Proofs.YtibndaianhlcaaaDoor
open Go.RowKit
set_option linter.unusedVariables false
set_option linter.unusedSimpArgs false

theorem own_put {w : World} {base : Nat} {e : TypeId} {size : Nat} {v : Value} {n : Nat} {xs : List Value} (h : w.ownsRow base e size v n xs) {p : Addr} (hp : v.ownBlock ≠ some p.block) (u : Value) : (w.setCell p u).ownsRow base e size v n xs := by
  refine h.kept (row := some p.block) ⟨rfl, rfl, rfl, by simp [World.setCell], fun k hk hne => Below.heap_setCell w p u k (fun e => hne (by rw [e]))⟩ ?_
  exact .inr hp
/-- A variable that is a struct, read whole. -/
theorem load_aggr {P : Program} {T U : TypeId} {k : Nat} (ha : ∀ w, (isAgg T).run P w = .ok true w) (hz : ∀ w, (Go.sizeOf T).run P w = .ok k w) {w : World} {g : Nat} {cs : Array Value} (hcs : cs.size = k) (hb : Blk w g U cs) :
    (loadVar T ⟨g, 0, none⟩).run P w = .ok (.agg cs) w := by
  have hl := run_loadCells_list (P := P) (w := w) ⟨g, 0, none⟩ cs.toList (fun i v hi => by rw [addr_of_add, Nat.zero_add, hb.cell]; simpa using hi)
  rw [Array.length_toList, hcs] at hl
  simp [loadVar, ha, hz, hl]
theorem results_aggr {P : Program} {fn : Func} {t : Tmp} {T U : TypeId} {g k : Nat} {cs : Array Value} {w : World} {tmps : Array Value} (h : fn.results = #[.cell t T]) (ht : tmps.getD t undef = .pointer (some ⟨g, 0, none⟩))
    (ha : ∀ w, (isAgg T).run P w = .ok true w) (hz : ∀ w, (Go.sizeOf T).run P w = .ok k w) (hcs : cs.size = k) (hb : Blk w g U cs) : (results fn tmps).run P w = .ok (.agg cs) w := by
  have hl := load_aggr ha hz hcs hb
  simp only [Array.getD_eq_getD_getElem?] at ht
  simp [results, h, ht, asAddr, hl]
theorem results_aggr2 {P : Program} {fn : Func} {t u : Tmp} {T U : TypeId} {g k : Nat} {cs : Array Value} {w : World} {tmps : Array Value} (h : fn.results = #[.cell t T, .tmp u]) (ht : tmps.getD t undef = .pointer (some ⟨g, 0, none⟩))
    (ha : ∀ w, (isAgg T).run P w = .ok true w) (hz : ∀ w, (Go.sizeOf T).run P w = .ok k w) (hcs : cs.size = k) (hb : Blk w g U cs) : (results fn tmps).run P w = .ok (.tuple #[.agg cs, tmps.getD u undef]) w := by
  have hl := load_aggr ha hz hcs hb
  simp only [Array.getD_eq_getD_getElem?] at ht
  simp [results, h, ht, asAddr, hl]
theorem results_aggr3 {P : Program} {fn : Func} {t u v : Tmp} {T U : TypeId} {g k : Nat} {cs : Array Value} {w : World} {tmps : Array Value} (h : fn.results = #[.cell t T, .tmp u, .tmp v]) (ht : tmps.getD t undef = .pointer (some ⟨g, 0, none⟩))
    (ha : ∀ w, (isAgg T).run P w = .ok true w) (hz : ∀ w, (Go.sizeOf T).run P w = .ok k w) (hcs : cs.size = k) (hb : Blk w g U cs) : (results fn tmps).run P w = .ok (.tuple #[.agg cs, tmps.getD u undef, tmps.getD v undef]) w := by
  have hl := load_aggr ha hz hcs hb
  simp only [Array.getD_eq_getD_getElem?] at ht
  simp [results, h, ht, asAddr, hl]
end Go.Proofs.YtibndaianhlcaaaDoor
namespace Go.Proofs.YtibndaianhlcaaaDoor
open Go.RowKit Go.Sort Go.Shelf
set_option linter.unusedVariables false
set_option linter.unusedSimpArgs false

/-- All that is new belongs to it. -/
def Fn (F : Nat → Prop) (w w' : World) : Nat → Prop := fun k => F k ∨ (w.heap.size ≤ k ∧ k < w'.heap.size)
theorem fn_wide (F : Nat → Prop) (w w' : World) : ∀ k, F k → Fn F w w' k := fun _ h => .inl h
theorem Step.fn {w w' : World} {F G : Nat → Prop} (h : Step w w' F G) : Step w w' F (Fn F w w') := ⟨h.os, h.tape, h.output, h.size, h.block, fun k hk => by rcases hk with h1 | h1; exact .inl h1; exact .inr h1.1⟩
section
variable {w w' : World} {F : Nat → Prop} {g : Nat} {s : Mach} {fA : Option Addr} {fn fc : Nat} {es : List EV} {uA : Option Addr} {un uc : Nat} {nA : Option Addr} {nn nc : Nat} {us : List SV} {pA : Option Addr} {pn pc : Nat}
theorem MachV.wide {G : Nat → Prop} (h : MachV w F g s fA fn fc es uA un uc nA nn nc us pA pn pc) (hg : ∀ k, F k → G k) : MachV w G g s fA fn fc es uA un uc nA nn nc us pA pn pc :=
  ⟨h.blk, hg _ h.foot, h.files.wide hg, h.ents, fun e he => (h.data e he).wide hg, h.users.wide hg, h.units.wide hg, h.srvs, fun u hu => (h.req u hu).wide hg, fun u hu => (h.aft u hu).wide hg, h.plan.wide hg, h.sep⟩
theorem MachV.setPlan (h : MachV w F g s fA fn fc es uA un uc nA nn nc us pA pn pc) {A : Option Addr} {n c : Nat} {p : List Bool} (hp : Cut w F 4 A n c (p.map bl)) :
    MachV (w.setCell ⟨g, 3, none⟩ (.slice A n c)) F g ⟨s.files, s.users, s.units, p⟩ fA fn fc es uA un uc nA nn nc us A n c := by
  obtain ⟨h1, h2, h3, h4, h5, h6, _⟩ := h.cells (p := ⟨g, 3, none⟩) rfl (.slice A n c)
  refine ⟨h.blk.set_ 3 _, h.foot, h1, h.ents, h2, h3, h4, h.srvs, h5, h6, ?_, h.sep⟩
  refine hp.other (by simp [World.setCell]) fun k cur fr hk => ?_
  refine Below.heap_setCell w _ _ k (fun e1 => ?_)
  simp only at e1
  subst e1
  have hB := h.blk
  unfold Blk at hB
  rw [hB] at hk
  injection hk with hk
  injection hk with _ hk
  exact absurd hk (by decide)
theorem MachV.facts (h : MachV w F g s fA fn fc es uA un uc nA nn nc us pA pn pc) : w.cell? ⟨g, 0, none⟩ = some (.slice fA fn fc) ∧ w.cell? ⟨g, 1, none⟩ = some (.slice uA un uc) ∧ w.cell? ⟨g, 2, none⟩ = some (.slice nA nn nc) ∧ w.cell? ⟨g, 3, none⟩ = some (.slice pA pn pc) ∧ ∀ i, w.frozen? ⟨g, i, none⟩ = false :=
  ⟨h.blk.cell 0, h.blk.cell 1, h.blk.cell 2, h.blk.cell 3, h.blk.frozen⟩
end
theorem new_any (w : World) : Calls Tryd.prog 7 #[] w fun e w' => e = .returned (.pointer (some ⟨w.heap.size, 0, none⟩)) ∧ MachAt w' (fun k => k = w.heap.size) w.heap.size newM ∧ Below w.heap.size w w' := by
  have hb := (Below.refl w.heap.size w).alloc (Nat.le_refl _) (.cells #[.slice none 0 0, .slice none 0 0, .slice none 0 0, .slice none 0 0] 36)
  have hB := Blk.new w 36 #[.slice none 0 0, .slice none 0 0, .slice none 0 0, .slice none 0 0]
  go_enter Tryd.func7, Tryd.ntmps7
  go_wp2_with (fail)
  go_ret
  exact ⟨rfl, ⟨none, 0, 0, [], none, 0, 0, none, 0, 0, [], none, 0, 0, hB, rfl, Row.nil _ _ _ _, rfl, (fun e he => by cases he), Row.nil _ _ _ _, Row.nil _ _ _ _, rfl, (fun u hu => by cases hu), (fun u hu => by cases hu), Cut.nil _ _ _, fun u hu => by cases hu⟩, hb⟩
theorem bool_info : (Tryd.prog.info? 4).map (fun i => (i.zero, i.size, i.bytes)) = some (some (.bool false), 1, 1) := by kernel_rfl
theorem bls_one (l : List Bool) : ∀ u ∈ l.map bl, u.oneCell' = true := by
  intro u hu
  obtain ⟨c, _, rfl⟩ := List.mem_map.1 hu
  rfl
set_option maxRecDepth 100000 in
set_option maxHeartbeats 1000000 in
theorem plan_any {w : World} {F : Nat → Prop} {g : Nat} {s : Mach} (h : MachAt w F g s) {B : Nat} {A : Option Addr} {n c : Nat} {p : List Bool} (hp : Slc w B 1 A n c (p.map bl)) (hB : B ≤ w.heap.size) (hn : n ≤ 1000000000) :
    Calls Tryd.prog 8 #[.pointer (some ⟨g, 2, none⟩), .slice A n c] w fun e w' => e = .returned (.tuple #[]) ∧ MachAt w' (Fn F w w') g ⟨s.files, s.users, s.units, p⟩ ∧ Step w w' F (Fn F w w') := by
  obtain ⟨fA, fn, fc, es, uA, un, uc, nA, nn, nc, us, pA, pn, pc, h⟩ := h
  have ho0 : (w.alloc (.cells #[] 4)).ownsRow w.heap.size 4 1 (.slice (some ⟨w.heap.size, 0, none⟩) 0 0) 0 [] := World.ownsRow_made w #[] 0 (Nat.le_refl _) (Nat.zero_le _) rfl
  have hb1 : Below w.heap.size w (w.alloc (.cells #[] 4)) := (Below.refl _ w).alloc (Nat.le_refl _) _
  obtain ⟨i, hi, hz0, hz1, hz2⟩ := info_parts bool_info
  obtain ⟨A2, c2, w2, hr, ho, hg, _⟩ := append_slc (P := Tryd.prog) (w.alloc (.cells #[] 4)) w.heap.size 22 22 4 i _ 1 1 Tryd.underlying22 hi hz0 hz1 hz2 rfl (by decide) _ 0 [] ho0 B A n c (p.map bl) (hp.below (hb1.mono hB)) (bls_one p) (by unfold maxLen; omega) (by omega) (by simp)
  rw [Nat.zero_add, List.nil_append] at ho
  rw [Nat.zero_add] at hr
  have hb2 : Below w.heap.size w w2 := grown_below hb1 ho0 (by simp) hg
  have h2 := h.below hb2
  have hR : Row w2 (Fn F w w2) 4 1 (.slice A2 n c2) n (p.map bl) := ⟨⟨ho.1, ho.2.imp id fun ⟨g', cap, cur, e, _, r⟩ => ⟨g', cap, cur, e, Nat.zero_le _, r⟩⟩, fun k hk => .inr (ho.lt k hk)⟩
  have h3 := (h2.wide (fn_wide F w w2)).setPlan (Cut.of_row hR)
  obtain ⟨_, _, _, m3, mf⟩ := h2.facts
  have mf3 := mf 3
  have HV := Lib.hid h3
  have hst : Step w (w2.setCell ⟨g, 3, none⟩ (.slice A2 n c2)) F F := (Step.of_below hb2 F).setCell (p := ⟨g, 3, none⟩) (.inl h.foot) _
  have HS := Lib.hid hst.fn
  have hsz : (w2.setCell ⟨g, 3, none⟩ (.slice A2 n c2)).heap.size = w2.heap.size := by simp [World.setCell]
  have HE := Lib.hid (show Fn F w (w2.setCell ⟨g, 3, none⟩ (.slice A2 n c2)) = Fn F w w2 by unfold Fn; rw [hsz])
  clear h h2 h3 hR ho hg hb1 hb2 ho0 mf hst hsz hp
  go_enter Tryd.func8, Tryd.ntmps8
  go_wp2_with (at_builtin; refine wpList_append_run rfl _ _ _ rfl rfl rfl hr ?_; clear hr)
  go_end0
  exact ⟨rfl, ⟨fA, fn, fc, es, uA, un, uc, nA, nn, nc, us, A2, n, c2, by rw [HE.out]; exact HV.out⟩, HS.out⟩
theorem plan_head {w : World} {F : Nat → Prop} {A : Option Addr} {n c : Nat} {b : Bool} {p : List Bool} (h : Cut w F 4 A n c ((b :: p).map bl)) : ∃ q off, A = some ⟨q, off, none⟩ ∧ 0 < n ∧ w.cell? ⟨q, off, none⟩ = some (.bool b) ∧
    (c ≠ 1 → Cut w F 4 (some ⟨q, off + 1, none⟩) (n - 1) (c - 1) (p.map bl)) ∧ (c = 1 → Cut w F 4 (some ⟨q, off, none⟩) (n - 1) (c - 1) (p.map bl)) := by
  have hl := h.slc.len
  simp at hl
  obtain ⟨q, off, e, hq, hc⟩ := h.slc.at_ (by omega)
  have h0 := hc 0 (.bool b) rfl
  have hle := h.slc.le
  refine ⟨q, off, e, by omega, h0, fun hc1 => ⟨⟨by simp; omega, by omega, by have := h.slc.cmax; omega, fun hn => ⟨q, off + 1, rfl, hq, fun j u hu => ?_⟩⟩, fun hn => ?_⟩, fun hc1 => ?_⟩
  · have := hc (j + 1) u (by simpa using hu)
    rwa [show off + 1 + j = off + (j + 1) by omega]
  · obtain ⟨b', off', cur, fr, e2, hF, hB⟩ := h.at_ (by omega)
    rw [e] at e2
    injection e2 with e2
    injection e2 with e2 e3
    subst e2
    exact ⟨q, off + 1, cur, fr, rfl, hF, hB⟩
  · have hp0 : p = [] := List.eq_nil_of_length_eq_zero (by omega)
    subst hp0
    exact ⟨⟨by simp; omega, by omega, by omega, fun hn => by omega⟩, fun hn => by omega⟩
set_option maxRecDepth 100000 in
set_option maxHeartbeats 1000000 in
theorem fails_any {w : World} {F : Nat → Prop} {g : Nat} {s : Mach} {fA : Option Addr} {fn fc : Nat} {es : List EV} {uA : Option Addr} {un uc : Nat} {nA : Option Addr} {nn nc : Nat} {us : List SV} {pA : Option Addr} {pn pc : Nat} (h : MachV w F g s fA fn fc es uA un uc nA nn nc us pA pn pc) :
    Calls Tryd.prog 36 #[.pointer (some ⟨g, 2, none⟩)] w fun e w' => e = .returned (.bool (failsP s.plan)) ∧ (∃ qA qn qc, MachV w' F g ⟨s.files, s.users, s.units, s.plan.tail⟩ fA fn fc es uA un uc nA nn nc us qA qn qc) ∧ Step w w' F F ∧ w'.heap.size = w.heap.size := by
  obtain ⟨f, u, n, pl⟩ := s
  cases pl with
  | nil =>
    have hp0 : pn = 0 := by have := h.plen; simpa using this.symm
    subst hp0
    obtain ⟨_, _, _, m3, _⟩ := h.facts
    have H := Lib.hid h
    clear h
    go_enter Tryd.func36, Tryd.ntmps36
    go_wp2_with (fail)
    go_ret
    exact ⟨rfl, ⟨_, _, _, H.out⟩, Step.refl _ _, rfl⟩
  | cons b p =>
    obtain ⟨q, off, rfl, hn, c0, k1, k2⟩ := plan_head h.plan
    obtain ⟨_, _, _, m3, mf⟩ := h.facts
    have mf3 := mf 3
    have hpc : pn ≤ pc := h.plan.slc.le
    have hn0 : ¬ pn = 0 := by omega
    have hneq : ((pn : Int) == 0) = false := by rw [beq_eq_false_iff_ne]; omega
    have h1c : (1 : Int) ≤ (pn : Int) := by omega
    have h1p : 1 ≤ pn := by omega
    have hc62 : pc ≤ 9223372036854775807 := by have := h.plan.slc.cmax; unfold maxLen at this; omega
    have HST := Lib.hid (fun v => (Step.refl w F).setCell (p := ⟨g, 3, none⟩) (.inl h.foot) v)
    by_cases hc1 : pc = 1
    · have HV := Lib.hid (h.setPlan (k2 hc1))
      subst hc1
      obtain rfl : pn = 1 := by omega
      clear h k1 k2 mf
      go_enter Tryd.func36, Tryd.ntmps36
      go_wp2_with (fail)
      go_ret
      exact ⟨rfl, ⟨_, _, _, HV.out⟩, HST.out _, by simp [World.setCell]⟩
    · have HV := Lib.hid (h.setPlan (k1 hc1))
      have hc1' : ¬ 1 = pc := fun e => hc1 e.symm
      clear h k1 k2 mf
      go_enter Tryd.func36, Tryd.ntmps36
      go_wp2_with (fail)
      go_ret
      exact ⟨rfl, ⟨_, _, _, HV.out⟩, HST.out _, by simp [World.setCell]⟩
end Go.Proofs.YtibndaianhlcaaaDoor
namespace Go.Proofs.YtibndaianhlcaaaDoor
open Go.RowKit Go.Sort
set_option linter.unusedVariables false
set_option linter.unusedSimpArgs false

theorem heap_new2 (w : World) (o1 o2 : Obj) : ((w.alloc o1).alloc o2).drew.heap[w.heap.size + 1]? = some o2 := by
  have h := heap_alloc_new (w.alloc o1) o2
  rw [World.size_alloc] at h
  exact h
/-- A slice of a slice. -/
def CutS (ty : TypeId) (x : Value) (lo hi mx : Option Value) : Sem Value := Instr.slice ty x lo hi mx
def headG (A : Option Addr) (n c k : Nat) : Value := .slice (if c = 0 then A else A.map (·.add 0)) k c
def tailG (A : Option Addr) (n c k sz : Nat) : Value := .slice (if c = k then A else A.map (·.add (k * sz))) (n - k) (c - k)
/-- Rows of elements of type e. -/
structure RowT (t e : TypeId) (sz : Nat) : Prop where
  und : Tryd.prog.underlying t = some (.slice e)
  size : (Tryd.prog.info? e).map (·.size) = some sz
  pos : 0 < sz
  app : ∀ {w : World} {base : Nat} {v : Value} {n : Nat} {xs : List Value} {B : Nat} {A : Option Addr} {m c : Nat} {ys : List Value}, w.ownsRow base e sz v n xs → Slc w B sz A m c ys → (∀ u ∈ ys, u.oneCell' = true) → n + m ≤ 1000000000 → base ≤ w.heap.size →
    ∃ A' c' w', (Builtin.append_ #[t, t] t #[v, .slice A m c]).run Tryd.prog w = .ok (.slice A' (n + m) c') w' ∧ w'.ownsRow base e sz (.slice A' (n + m) c') (n + m) (xs ++ ys) ∧ w.grownBy w' v.ownBlock ∧ ((Value.slice A' (n + m) c').ownBlock = v.ownBlock ∨ (Value.slice A' (n + m) c').ownBlock = some w.heap.size)
theorem cut_low {t e : TypeId} {sz : Nat} (T : RowT t e sz) {A : Option Addr} {n c k : Nat} {z : Int} (hz : z = (k : Int)) (hk : k ≤ c) (W : World) : (CutS t (.slice A n c) none (some (.int .i64 z)) none).run Tryd.prog W = .ok (headG A n c k) W := by
  subst hz
  have hs := T.size
  unfold CutS headG
  cases hq : Tryd.prog.info? e with
  | none => rw [hq] at hs; cases hs
  | some i => simp [Instr.slice, Instr.sliceBounds, Instr.sliceBound, run_underlying T.und, sizeOf, typeInfo, hq, asIntOf, hk]
theorem cut_high {t e : TypeId} {sz : Nat} (T : RowT t e sz) {A : Option Addr} {n c k : Nat} {z : Int} (hz : z = (k : Int)) (hk : k ≤ n) (W : World) : (CutS t (.slice A n c) (some (.int .i64 z)) none none).run Tryd.prog W = .ok (tailG A n c k sz) W := by
  subst hz
  have hs := T.size
  unfold CutS tailG
  cases hq : Tryd.prog.info? e with
  | none => rw [hq] at hs; cases hs
  | some i =>
    have hi : i.size = sz := by rw [hq] at hs; simpa using hs
    simp [Instr.slice, Instr.sliceBounds, Instr.sliceBound, run_underlying T.und, sizeOf, typeInfo, hq, hi, asIntOf, hk]
theorem head_slc {w : World} {B sz : Nat} {A : Option Addr} {n c : Nat} {xs : List Value} (h : Slc w B sz A n c xs) {k : Nat} (hk : k ≤ n) : ∃ A', headG A n c k = .slice A' k c ∧ Slc w B sz A' k c (xs.take (k * sz)) := by
  refine ⟨_, rfl, ⟨by rw [List.length_take, h.len]; exact Nat.min_eq_left (Nat.mul_le_mul_right _ hk), Nat.le_trans hk h.le, h.cmax, fun hp => ?_⟩⟩
  obtain ⟨b, off, e, hb, hc⟩ := h.at_ (by omega)
  subst e
  have hle := h.le
  refine ⟨b, off, by rw [if_neg (by omega)]; simp [addr_of_add], hb, fun j u hu => hc j u ?_⟩
  rw [List.getElem?_take] at hu
  split at hu
  · exact hu
  · cases hu
theorem tail_slc {w : World} {B sz : Nat} {A : Option Addr} {n c : Nat} {xs : List Value} (h : Slc w B sz A n c xs) {k : Nat} (hk : k ≤ n) : ∃ A' c', tailG A n c k sz = .slice A' (n - k) c' ∧ Slc w B sz A' (n - k) c' (xs.drop (k * sz)) := by
  have hle := h.le
  have hcm := h.cmax
  refine ⟨_, _, rfl, ⟨by rw [List.length_drop, h.len, Nat.sub_mul], by omega, by omega, fun hp => ?_⟩⟩
  obtain ⟨b, off, e, hb, hc⟩ := h.at_ (by omega)
  subst e
  refine ⟨b, off + k * sz, by rw [if_neg (by omega)]; simp [addr_of_add], hb, fun j u hu => ?_⟩
  rw [Nat.add_assoc]
  exact hc (k * sz + j) u (by rwa [List.getElem?_drop] at hu)
theorem empty_row (W : World) (e : TypeId) (sz base x : Nat) (hx : W.heap[x]? = some (.cells #[] e (0, 0))) (hb : base ≤ x) : W.ownsRow base e sz (.slice (some ⟨x, 0, none⟩) 0 0) 0 [] := ⟨by simp, .inr ⟨x, 0, #[], rfl, hb, hx, Nat.le_refl _, Nat.zero_le _, by simp, by simp⟩⟩
/-- append([]T{}, part...), at whatever block the empty row is. -/
theorem put_one {t e : TypeId} {sz : Nat} (T : RowT t e sz) {w W : World} {A : Option Addr} {k c : Nat} {ys : List Value} {B : Nat} (h : Slc w B sz A k c ys) (hB : B ≤ w.heap.size) (h1 : ∀ u ∈ ys, u.oneCell' = true) (hn : k ≤ 1000000000) {x : Nat} (hb : Below w.heap.size w W) (hx : W.heap[x]? = some (.cells #[] e (0, 0))) (hxb : w.heap.size ≤ x) :
    ∃ A1 c1 w1, (Builtin.append_ #[t, t] t #[.slice (some ⟨x, 0, none⟩) 0 0, .slice A k c]).run Tryd.prog W = .ok (.slice A1 k c1) w1 ∧ w1.ownsRow w.heap.size e sz (.slice A1 k c1) k ys ∧ Below w.heap.size w w1 ∧ (∀ y, y < W.heap.size → y ≠ x → w1.heap[y]? = W.heap[y]?) ∧ W.heap.size ≤ w1.heap.size := by
  obtain ⟨A', c', w', r, o, g, _⟩ := T.app (empty_row W e sz w.heap.size x hx hxb) (h.below (hb.mono hB)) h1 (by omega) hb.size
  rw [Nat.zero_add] at r o
  rw [List.nil_append] at o
  exact ⟨A', c', w', r, o, hb.grown g hb.size (fun q hq => by simp [Value.ownBlock] at hq; omega), fun y hy hne => g.block y hy (fun e => by simp [Value.ownBlock] at e; omega), g.size⟩
/-- A further part behind. -/
theorem put_more {t e : TypeId} {sz : Nat} (T : RowT t e sz) {w W : World} {A : Option Addr} {m c : Nat} {xs ys : List Value} {B : Nat} (h : Slc w B sz A m c ys) (hB : B ≤ w.heap.size) (h1 : ∀ u ∈ ys, u.oneCell' = true) {k : Nat} (hn : k + m ≤ 1000000000) {A1 : Option Addr} {c1 : Nat} (hb : Below w.heap.size w W) (ho : W.ownsRow w.heap.size e sz (.slice A1 k c1) k xs) :
    ∃ A2 c2 w2, (Builtin.append_ #[t, t] t #[.slice A1 k c1, .slice A m c]).run Tryd.prog W = .ok (.slice A2 (k + m) c2) w2 ∧ w2.ownsRow w.heap.size e sz (.slice A2 (k + m) c2) (k + m) (xs ++ ys) ∧ Below w.heap.size w w2 := by
  obtain ⟨A', c', w', r, o, g, _⟩ := T.app ho (h.below (hb.mono hB)) h1 hn hb.size
  exact ⟨A', c', w', r, o, hb.grown g hb.size (fun q hq => (ho.lt q hq).1)⟩
/-- An element of the call's own behind. -/
theorem put_new {t e : TypeId} {sz : Nat} (T : RowT t e sz) {w W : World} {xs : List Value} {xc : Array Value} (hxc : xc.size = sz) (h1 : ∀ u ∈ xc.toList, u.oneCell' = true) {k : Nat} (hn : k + 1 ≤ 1000000000) {A1 : Option Addr} {c1 y : Nat} (hb : Below w.heap.size w W) (ho : W.ownsRow w.heap.size e sz (.slice A1 k c1) k xs) (hy : Blk W y e xc) :
    ∃ A2 c2 w2, (Builtin.append_ #[t, t] t #[.slice A1 k c1, .slice (some ⟨y, 0, none⟩) 1 1]).run Tryd.prog W = .ok (.slice A2 (k + 1) c2) w2 ∧ w2.ownsRow w.heap.size e sz (.slice A2 (k + 1) c2) (k + 1) (xs ++ xc.toList) ∧ Below w.heap.size w w2 := by
  have hs := hy.slc (sz := sz) (n := 1) (c := 1) (by omega) (Nat.le_refl _) (by decide)
  rw [Nat.one_mul, List.take_of_length_le (by rw [Array.length_toList]; omega)] at hs
  obtain ⟨A', c', w', r, o, g, _⟩ := T.app ho hs h1 hn hb.size
  exact ⟨A', c', w', r, o, hb.grown g hb.size (fun q hq => (ho.lt q hq).1)⟩
/-- append(append([]T{}, l[:k]...), l[k+1:]...). -/
structure Era (w : World) (t e : TypeId) (sz : Nat) (A : Option Addr) (n c k : Nat) (xs : List Value) (A1 : Option Addr) (c1 : Nat) (w1 : World) (A2 : Option Addr) (c2 : Nat) (w2 : World) : Prop where
  r1 : (Builtin.append_ #[t, t] t #[.slice (some ⟨w.heap.size, 0, none⟩) 0 0, headG A n c k]).run Tryd.prog (w.alloc (.cells #[] e)).drew = .ok (.slice A1 k c1) w1
  r2 : (Builtin.append_ #[t, t] t #[.slice A1 k c1, tailG A n c (k + 1) sz]).run Tryd.prog w1 = .ok (.slice A2 (n - 1) c2) w2
  own : w2.ownsRow w.heap.size e sz (.slice A2 (n - 1) c2) (n - 1) (xs.take (k * sz) ++ xs.drop ((k + 1) * sz))
  bel1 : Below w.heap.size w w1
  bel : Below w.heap.size w w2
theorem era_run {t e : TypeId} {sz : Nat} (T : RowT t e sz) {w : World} {A : Option Addr} {n c : Nat} {xs : List Value} {B : Nat} (h : Slc w B sz A n c xs) (hB : B ≤ w.heap.size) (h1 : ∀ u ∈ xs, u.oneCell' = true) (hn : n ≤ 1000000000) {k : Nat} (hk : k < n) : ∃ A1 c1 w1 A2 c2 w2, Era w t e sz A n c k xs A1 c1 w1 A2 c2 w2 := by
  have hb : Below w.heap.size w (w.alloc (.cells #[] e)).drew := ((Below.refl _ w).alloc (Nat.le_refl _) _).drew
  obtain ⟨Ah, eh, hh⟩ := head_slc h (Nat.le_of_lt hk)
  obtain ⟨At, ct, et, ht⟩ := tail_slc h (show k + 1 ≤ n from hk)
  obtain ⟨A1, c1, w1, r1, o1, b1, _, _⟩ := put_one T hh hB (fun u hu => h1 u (List.mem_of_mem_take hu)) (by omega) hb (heap_alloc_new w _) (Nat.le_refl _)
  obtain ⟨A2, c2, w2, r2, o2, b2⟩ := put_more T ht hB (fun u hu => h1 u (List.mem_of_mem_drop hu)) (by omega) b1 o1
  rw [show k + (n - (k + 1)) = n - 1 by omega] at r2 o2
  exact ⟨A1, c1, w1, A2, c2, w2, by rw [eh]; exact r1, by rw [et]; exact r2, o2, b1, b2⟩
/-- The three orders of append(append(append([]T{}, l[:k]...), x), l[k:]...). -/
structure Put3 (w : World) (t e : TypeId) (sz : Nat) (A : Option Addr) (n c k : Nat) (xc : Array Value) (xs : List Value) (W : World) (x y : Nat) (A1 : Option Addr) (c1 : Nat) (w1 w1' : World) (A2 : Option Addr) (c2 : Nat) (w2 : World) (A3 : Option Addr) (c3 : Nat) (w3 : World) : Prop where
  r1 : (Builtin.append_ #[t, t] t #[.slice (some ⟨x, 0, none⟩) 0 0, headG A n c k]).run Tryd.prog W = .ok (.slice A1 k c1) w1
  r2 : (Builtin.append_ #[t, t] t #[.slice A1 k c1, .slice (some ⟨y, 0, none⟩) 1 1]).run Tryd.prog w1' = .ok (.slice A2 (k + 1) c2) w2
  r3 : (Builtin.append_ #[t, t] t #[.slice A2 (k + 1) c2, tailG A n c k sz]).run Tryd.prog w2 = .ok (.slice A3 (n + 1) c3) w3
  own : w3.ownsRow w.heap.size e sz (.slice A3 (n + 1) c3) (n + 1) (xs.take (k * sz) ++ xc.toList ++ xs.drop (k * sz))
  bel1 : Below w.heap.size w w1
  bel2 : Below w.heap.size w w2
  bel : Below w.heap.size w w3
section
variable {t e : TypeId} {sz : Nat} (T : RowT t e sz) {w : World} {A : Option Addr} {n c : Nat} {xs : List Value} {B : Nat} (h : Slc w B sz A n c xs) (hB : B ≤ w.heap.size) (h1 : ∀ u ∈ xs, u.oneCell' = true) (hn : n ≤ 1000000) {k : Nat} (hk : k ≤ n) {xc : Array Value} (hxc : xc.size = sz) (h2 : ∀ u ∈ xc.toList, u.oneCell' = true)
include T h hB h1 hn hk hxc h2
theorem put3_end {W w1 w1' : World} {x y : Nat} {A1 : Option Addr} {c1 : Nat} (r1 : (Builtin.append_ #[t, t] t #[.slice (some ⟨x, 0, none⟩) 0 0, headG A n c k]).run Tryd.prog W = .ok (.slice A1 k c1) w1) (b1 : Below w.heap.size w w1) (b1' : Below w.heap.size w w1') (o1 : w1'.ownsRow w.heap.size e sz (.slice A1 k c1) k (xs.take (k * sz))) (hy : Blk w1' y e xc) :
    ∃ A2 c2 w2 A3 c3 w3, Put3 w t e sz A n c k xc xs W x y A1 c1 w1 w1' A2 c2 w2 A3 c3 w3 := by
  obtain ⟨At, ct, et, ht⟩ := tail_slc h hk
  obtain ⟨A2, c2, w2, r2, o2, b2⟩ := put_new T hxc h2 (by omega) b1' o1 hy
  obtain ⟨A3, c3, w3, r3, o3, b3⟩ := put_more T ht hB (fun u hu => h1 u (List.mem_of_mem_drop hu)) (by omega) b2 o2
  rw [show k + 1 + (n - k) = n + 1 by omega] at r3 o3
  exact ⟨A2, c2, w2, A3, c3, w3, r1, r2, by rw [et]; exact r3, o3, b1, b2, b3⟩
theorem put3_a : ∃ A1 c1 w1 A2 c2 w2 A3 c3 w3, Put3 w t e sz A n c k xc xs ((w.alloc (.cells xc e)).alloc (.cells #[] e)).drew (w.heap.size + 1) w.heap.size A1 c1 w1 w1 A2 c2 w2 A3 c3 w3 := by
  have hb : Below w.heap.size w ((w.alloc (.cells xc e)).alloc (.cells #[] e)).drew := (((Below.refl _ w).alloc (Nat.le_refl _) _).alloc (by simp) _).drew
  obtain ⟨Ah, eh, hh⟩ := head_slc h hk
  obtain ⟨A1, c1, w1, r1, o1, b1, k1, _⟩ := put_one T hh hB (fun u hu => h1 u (List.mem_of_mem_take hu)) (by omega) hb (x := w.heap.size + 1) (heap_new2 w _ _) (by omega)
  have hy : Blk w1 w.heap.size e xc := by
    unfold Blk
    rw [k1 w.heap.size (by simp; omega) (by omega)]
    show ((w.alloc (.cells xc e)).alloc (.cells #[] e)).heap[w.heap.size]? = _
    rw [Below.heap_alloc _ _ _ (by simp)]
    exact heap_alloc_new w _
  obtain ⟨A2, c2, w2, A3, c3, w3, S⟩ := put3_end T h hB h1 hn hk hxc h2 (by rw [eh]; exact r1) b1 b1 o1 hy
  exact ⟨A1, c1, w1, A2, c2, w2, A3, c3, w3, S⟩
theorem put3_b : ∃ A1 c1 w1 A2 c2 w2 A3 c3 w3, Put3 w t e sz A n c k xc xs ((w.alloc (.cells #[] e)).alloc (.cells xc e)).drew w.heap.size (w.heap.size + 1) A1 c1 w1 w1 A2 c2 w2 A3 c3 w3 := by
  have hb : Below w.heap.size w ((w.alloc (.cells #[] e)).alloc (.cells xc e)).drew := (((Below.refl _ w).alloc (Nat.le_refl _) _).alloc (by simp) _).drew
  obtain ⟨Ah, eh, hh⟩ := head_slc h hk
  obtain ⟨A1, c1, w1, r1, o1, b1, k1, _⟩ := put_one T hh hB (fun u hu => h1 u (List.mem_of_mem_take hu)) (by omega) hb (x := w.heap.size) (by
    show ((w.alloc (.cells #[] e)).alloc (.cells xc e)).heap[w.heap.size]? = _
    rw [Below.heap_alloc _ _ _ (by simp)]; exact heap_alloc_new w _) (Nat.le_refl _)
  have hy : Blk w1 (w.heap.size + 1) e xc := by
    unfold Blk
    rw [k1 (w.heap.size + 1) (by simp) (by omega)]
    exact heap_new2 w _ _
  obtain ⟨A2, c2, w2, A3, c3, w3, S⟩ := put3_end T h hB h1 hn hk hxc h2 (by rw [eh]; exact r1) b1 b1 o1 hy
  exact ⟨A1, c1, w1, A2, c2, w2, A3, c3, w3, S⟩
theorem put3_c : ∃ A1 c1 w1 A2 c2 w2 A3 c3 w3, Put3 w t e sz A n c k xc xs (w.alloc (.cells #[] e)).drew w.heap.size w1.heap.size A1 c1 w1 (w1.alloc (.cells xc e)) A2 c2 w2 A3 c3 w3 := by
  have hb : Below w.heap.size w (w.alloc (.cells #[] e)).drew := ((Below.refl _ w).alloc (Nat.le_refl _) _).drew
  obtain ⟨Ah, eh, hh⟩ := head_slc h hk
  obtain ⟨A1, c1, w1, r1, o1, b1, _, _⟩ := put_one T hh hB (fun u hu => h1 u (List.mem_of_mem_take hu)) (by omega) hb (x := w.heap.size) (heap_alloc_new w _) (Nat.le_refl _)
  obtain ⟨A2, c2, w2, A3, c3, w3, S⟩ := put3_end T h hB h1 hn hk hxc h2 (by rw [eh]; exact r1) b1 (b1.alloc b1.size (.cells xc e)) (o1.alloc _) (Blk.new w1 _ _)
  exact ⟨A1, c1, w1, A2, c2, w2, A3, c3, w3, S⟩
end
/-- The three orders of append(append([]T{}, l...), x). -/
structure Put2 (w : World) (t e : TypeId) (sz : Nat) (A : Option Addr) (n c : Nat) (xc : Array Value) (xs : List Value) (W : World) (x y : Nat) (A1 : Option Addr) (c1 : Nat) (w1 w1' : World) (A2 : Option Addr) (c2 : Nat) (w2 : World) : Prop where
  r1 : (Builtin.append_ #[t, t] t #[.slice (some ⟨x, 0, none⟩) 0 0, .slice A n c]).run Tryd.prog W = .ok (.slice A1 n c1) w1
  r2 : (Builtin.append_ #[t, t] t #[.slice A1 n c1, .slice (some ⟨y, 0, none⟩) 1 1]).run Tryd.prog w1' = .ok (.slice A2 (n + 1) c2) w2
  own : w2.ownsRow w.heap.size e sz (.slice A2 (n + 1) c2) (n + 1) (xs ++ xc.toList)
  bel1 : Below w.heap.size w w1
  bel : Below w.heap.size w w2
section
variable {t e : TypeId} {sz : Nat} (T : RowT t e sz) {w : World} {A : Option Addr} {n c : Nat} {xs : List Value} {B : Nat} (h : Slc w B sz A n c xs) (hB : B ≤ w.heap.size) (h1 : ∀ u ∈ xs, u.oneCell' = true) (hn : n ≤ 1000000) {xc : Array Value} (hxc : xc.size = sz) (h2 : ∀ u ∈ xc.toList, u.oneCell' = true)
include T h hB h1 hn hxc h2
theorem put2_a : ∃ A1 c1 w1 A2 c2 w2, Put2 w t e sz A n c xc xs ((w.alloc (.cells xc e)).alloc (.cells #[] e)).drew (w.heap.size + 1) w.heap.size A1 c1 w1 w1 A2 c2 w2 := by
  have hb : Below w.heap.size w ((w.alloc (.cells xc e)).alloc (.cells #[] e)).drew := (((Below.refl _ w).alloc (Nat.le_refl _) _).alloc (by simp) _).drew
  obtain ⟨A1, c1, w1, r1, o1, b1, k1, _⟩ := put_one T h hB h1 (by omega) hb (x := w.heap.size + 1) (heap_new2 w _ _) (by omega)
  have hy : Blk w1 w.heap.size e xc := by
    unfold Blk
    rw [k1 w.heap.size (by simp; omega) (by omega)]
    show ((w.alloc (.cells xc e)).alloc (.cells #[] e)).heap[w.heap.size]? = _
    rw [Below.heap_alloc _ _ _ (by simp)]
    exact heap_alloc_new w _
  obtain ⟨A2, c2, w2, r2, o2, b2⟩ := put_new T hxc h2 (by omega) b1 o1 hy
  exact ⟨A1, c1, w1, A2, c2, w2, r1, r2, o2, b1, b2⟩
theorem put2_b : ∃ A1 c1 w1 A2 c2 w2, Put2 w t e sz A n c xc xs ((w.alloc (.cells #[] e)).alloc (.cells xc e)).drew w.heap.size (w.heap.size + 1) A1 c1 w1 w1 A2 c2 w2 := by
  have hb : Below w.heap.size w ((w.alloc (.cells #[] e)).alloc (.cells xc e)).drew := (((Below.refl _ w).alloc (Nat.le_refl _) _).alloc (by simp) _).drew
  obtain ⟨A1, c1, w1, r1, o1, b1, k1, _⟩ := put_one T h hB h1 (by omega) hb (x := w.heap.size) (by
    show ((w.alloc (.cells #[] e)).alloc (.cells xc e)).heap[w.heap.size]? = _
    rw [Below.heap_alloc _ _ _ (by simp)]; exact heap_alloc_new w _) (Nat.le_refl _)
  have hy : Blk w1 (w.heap.size + 1) e xc := by
    unfold Blk
    rw [k1 (w.heap.size + 1) (by simp) (by omega)]
    exact heap_new2 w _ _
  obtain ⟨A2, c2, w2, r2, o2, b2⟩ := put_new T hxc h2 (by omega) b1 o1 hy
  exact ⟨A1, c1, w1, A2, c2, w2, r1, r2, o2, b1, b2⟩
theorem put2_c : ∃ A1 c1 w1 A2 c2 w2, Put2 w t e sz A n c xc xs (w.alloc (.cells #[] e)).drew w.heap.size w1.heap.size A1 c1 w1 (w1.alloc (.cells xc e)) A2 c2 w2 := by
  have hb : Below w.heap.size w (w.alloc (.cells #[] e)).drew := ((Below.refl _ w).alloc (Nat.le_refl _) _).drew
  obtain ⟨A1, c1, w1, r1, o1, b1, _, _⟩ := put_one T h hB h1 (by omega) hb (x := w.heap.size) (heap_alloc_new w _) (Nat.le_refl _)
  obtain ⟨A2, c2, w2, r2, o2, b2⟩ := put_new T hxc h2 (by omega) (b1.alloc b1.size (.cells xc e)) (o1.alloc _) (Blk.new w1 _ _)
  exact ⟨A1, c1, w1, A2, c2, w2, r1, r2, o2, b1, b2⟩
end
theorem rowT_of {t e : TypeId} {sz bytes : Nat} {z : Value} (hu : Tryd.prog.underlying t = some (.slice e)) (hinfo : (Tryd.prog.info? e).map (fun i => (i.zero, i.size, i.bytes)) = some (some z, sz, bytes)) (hz : z.cells.size = sz) (hp : 0 < sz) (hby : bytes ≤ 100) (hpos : 0 < bytes) (hbs : bytes * 1000000000 ≤ 140737488355328) : RowT t e sz := by
  obtain ⟨i, hi, hz0, hz1, hz2⟩ := info_parts hinfo
  refine ⟨hu, by rw [hi]; simp [hz1], hp, fun {w base v n xs B A m c ys} ho hs h1 hn hb => ?_⟩
  exact append_slc (P := Tryd.prog) w base t t e i z sz bytes hu hi hz0 hz1 hz2 hz hp v n xs ho B A m c ys hs h1 (by unfold maxLen; omega) (Nat.le_trans (Nat.mul_le_mul_right _ hn) (by omega)) hb
end Go.Proofs.YtibndaianhlcaaaDoor
namespace Go.Proofs.YtibndaianhlcaaaDoor
open Go.RowKit Go.Sort Go.Shelf
set_option linter.unusedVariables false
set_option linter.unusedSimpArgs false

def svArr (u : SV) : Array Value := #[.string ⟨u.name.toArray⟩, .string ⟨u.start.toArray⟩, .slice u.A u.n u.c, .slice u.A2 u.n2 u.c2]
theorem predU_any (u : SV) (name : Txt) (bn : Nat) (w : World) (hbn : w.cell? ⟨bn, 0, none⟩ = some (.string ⟨name.toArray⟩)) :
    Calls Tryd.prog 55 #[.agg (svArr u), .pointer (some ⟨bn, 0, none⟩)] w fun e w' => e = .returned (.bool (decide (u.name = name))) ∧ Below w.heap.size w w' := by
  have hlt : bn < w.heap.size := World.block_lt_of_cell? _ _ hbn
  have hb := (Below.refl w.heap.size w).alloc (Nat.le_refl _) (.cells (svArr u) 46)
  have t1 : (ByteArray.mk u.name.toArray).toList = u.name := Go.ByteArray.toList_eq _
  have t2 : (ByteArray.mk name.toArray).toList = name := Go.ByteArray.toList_eq _
  unfold svArr at hb ⊢
  obtain ⟨un, us, ur, uA, un1, uc1, ua, uA2, un2, uc2⟩ := u
  simp only at t1 hb ⊢
  cases h : (un == name) with
  | true =>
    have H := Lib.hid (show un = name by simpa using h)
    go_enter Tryd.func55, Tryd.ntmps55
    go_wp2
    go_ret
    exact ⟨by rw [decide_eq_true H.out]; rfl, hb⟩
  | false =>
    have H := Lib.hid (show ¬ un = name by simpa using h)
    go_enter Tryd.func55, Tryd.ntmps55
    go_wp2
    go_ret
    exact ⟨by rw [decide_eq_false H.out]; rfl, hb⟩
def atU (l : List Srv) (n : Txt) : Int := if hasU l n = true then (idxU l n : Int) else -1
set_option maxRecDepth 100000 in
set_option maxHeartbeats 1000000 in
theorem idxU_any {w : World} {B : Nat} {A : Option Addr} {n c : Nat} {us : List SV} (h : UnitsAt w B A n c us) (hB : B ≤ w.heap.size) (name : Txt) (bn : Nat) (hbn : w.cell? ⟨bn, 0, none⟩ = some (.string ⟨name.toArray⟩)) :
    Calls Tryd.prog 54 #[.slice A n c, .func (.func 55) #[] #[.pointer (some ⟨bn, 0, none⟩)]] w fun e w' => e = .returned (.int .i64 (atU (us.map SV.srv) name)) ∧ Below w.heap.size w w' := by
  have hn62 : n ≤ 9223372036854775807 := by have := h.slc.le; have := h.slc.cmax; unfold maxLen at this; omega
  have hbl : bn < w.heap.size := World.block_lt_of_cell? _ _ hbn
  have H := Lib.hid h
  have HL := Lib.hid h.len
  clear h
  go_enter Tryd.func54, Tryd.ntmps54
  go_wp2_with (fail)
  go_loopw [8] (fun i wr => ∃ k : Nat, k ≤ n ∧ i = .int .i64 (k : Int) ∧ Aside (∀ i (hi : i < (us.map SV.srv).length), i < k → (us.map SV.srv)[i].name ≠ name) ∧ Aside (Below w.heap.size w wr)) (fun i _ => n - (intOf i).toNat)
  case atStart => exact ⟨0, Nat.zero_le _, rfl, fun i _ h => absurd h (Nat.not_lt_zero _), Below.refl _ _⟩
  case round =>
    obtain ⟨k, hk, rfl, hno, hb⟩ := hrel
    by_cases hlt : k < n
    · obtain ⟨b, off, rfl, hbB, hl, c0, c1, c2, c3, _, _⟩ := (H.out.below (hb.out.mono hB)).at_ hlt
      have hp := predU_any us[k] name bn wr ((hb.out.cell (p := ⟨bn, 0, none⟩) hbl).trans hbn)
      have hkm : k < (us.map SV.srv).length := by simpa using hl
      have hnm : (us.map SV.srv)[k].name = us[k].name := by simp [SV.srv]
      by_cases hhit : us[k].name = name
      · have HA := Lib.hid (idxU_eq (l := us.map SV.srv) hkm (hnm.trans hhit) (fun i hi hik => hno.out i hi hik))
        rw [decide_eq_true hhit] at hp
        clear hhit hnm hkm
        unfold svArr at hp
        generalize us[k] = u at *
        obtain ⟨un, ust, ur, uA, un1, uc1, ua, uA2, un2, uc2⟩ := u
        simp only at hp c0 c1 c2 c3
        go_wp2_with (go_at_call 55; refine hp.mono ?_; clear hp; rintro e2 w2 ⟨rfl, hb2⟩)
        go_ret
        exact ⟨by unfold atU; rw [if_pos HA.out.2, HA.out.1]; rfl, hb.out.trans (hb2.mono hb.out.size)⟩
      · have HN := Lib.hid (show ∀ i (hi : i < (us.map SV.srv).length), i < k + 1 → (us.map SV.srv)[i].name ≠ name from fun i hi hik => by
          rcases Nat.lt_or_ge i k with h1 | h1
          · exact hno.out i hi h1
          · obtain rfl : i = k := by omega
            rw [hnm]
            exact hhit)
        rw [decide_eq_false hhit] at hp
        clear hhit hnm hkm
        unfold svArr at hp
        generalize us[k] = u at *
        obtain ⟨un, ust, ur, uA, un1, uc1, ua, uA2, un2, uc2⟩ := u
        simp only at hp c0 c1 c2 c3
        go_wp2_with (go_at_call 55; refine hp.mono ?_; clear hp; rintro e2 w2 ⟨rfl, hb2⟩)
        exact ⟨⟨k + 1, by omega, by go_num, HN.out, hb.out.trans (hb2.mono hb.out.size)⟩, by simp [intOf]; omega⟩
    · have HF := Lib.hid (hasU_none (l := us.map SV.srv) (n := name) fun i hi => hno.out i hi (by have := HL.out; simp at hi; omega))
      go_wp2_with (fail)
      go_ret
      exact ⟨by unfold atU; rw [if_neg (by rw [HF.out]; decide)]; rfl, hb.out⟩
theorem MachV.unitsAt {w : World} {F : Nat → Prop} {g : Nat} {s : Mach} {fA : Option Addr} {fn fc : Nat} {es : List EV} {uA : Option Addr} {un uc : Nat} {nA : Option Addr} {nn nc : Nat} {us : List SV} {pA : Option Addr} {pn pc : Nat} (h : MachV w F g s fA fn fc es uA un uc nA nn nc us pA pn pc) : UnitsAt w w.heap.size nA nn nc us :=
  ⟨h.units.slc', h.nlen.1, fun u hu => (h.req u hu).slc', fun u hu => (h.aft u hu).slc'⟩
set_option maxRecDepth 100000 in
theorem at_any {w : World} {F : Nat → Prop} {g : Nat} {s : Mach} {fA : Option Addr} {fn fc : Nat} {es : List EV} {uA : Option Addr} {un uc : Nat} {nA : Option Addr} {nn nc : Nat} {us : List SV} {pA : Option Addr} {pn pc : Nat} (h : MachV w F g s fA fn fc es uA un uc nA nn nc us pA pn pc) (name : Txt) :
    Calls Tryd.prog 35 #[.pointer (some ⟨g, 2, none⟩), .string ⟨name.toArray⟩] w fun e w' => e = .returned (.int .i64 (atU s.units name)) ∧ Below w.heap.size w w' := by
  have hb1 : Below w.heap.size w (w.alloc (.cells #[.string ⟨name.toArray⟩] 9)) := (Below.refl _ w).alloc (Nat.le_refl _) _
  have h1 := h.below hb1
  have hx := idxU_any (h.unitsAt.below hb1) (by simp) name w.heap.size (World.cell?_alloc_mark w _ _ _ 0)
  rw [h.srvs] at hx
  have m2 := h1.facts.2.2.1
  have HB1 := Lib.hid hb1
  clear h h1 hb1
  go_enter Tryd.func35, Tryd.ntmps35
  go_wp2_with (go_at_call 54; refine hx.mono ?_; clear hx; rintro e2 w2 ⟨rfl, hb2⟩)
  go_ret
  exact ⟨rfl, HB1.out.trans (hb2.mono HB1.out.size)⟩
end Go.Proofs.YtibndaianhlcaaaDoor
namespace Go.Proofs
open Go.Shelf
def Tryd.lays106_ren : Go.Shelf.Ren := ⟨fun | 106 => 43 | 213 => 58 | 265 => 73 | n => n, fun | 9 => 9 | 3 => 3 | n => n, fun | n => n⟩
theorem Tryd.lays106 : Go.Proofs.Lays.n106 Tryd.prog Tryd.lays106_ren := {
  mixed := by kernel_rfl
  f106 := Tryd.func43.trans (congrArg some (by kernel_rfl))
  f213 := Tryd.func58.trans (congrArg some (by kernel_rfl))
  f265 := Tryd.func73.trans (congrArg some (by kernel_rfl))
  t3 := Tryd.underlying3
  a3 := Tryd.isAgg3
  z3 := Tryd.sizeOf3
  v3 := Tryd.zeroValue3
  t9 := Tryd.underlying9
  a9 := Tryd.isAgg9
  z9 := Tryd.sizeOf9
  v9 := Tryd.zeroValue9 }
open Go.RowKit in
/-- strings.Compare: "Compare returns an integer comparing two strings lexicographically. The result will be 0 if a == b, -1 if a < b, and +1 if a > b.": IT RETURNS 'Lib.compareBytes a b'; the world is as it was. (LAID: no walk: one application.) -/
theorem Tryd.strings_Compare (a b : ByteArray) (w : World) :
    Calls Tryd.prog 43 #[.string a, .string b] w fun e w' => e = .returned (.int .i64 (Lib.compareBytes a.data.toList b.data.toList)) ∧ w' = w := Any.strings_Compare Tryd.lays106 a b w
def Tryd.lays193_ren : Go.Shelf.Ren := ⟨fun | 193 => 67 | n => n, fun | 31 => 29 | 9 => 9 | 4 => 4 | 3 => 3 | 0 => 0 | n => n, fun | n => n⟩
theorem Tryd.lays193 : Go.Proofs.Lays.n193 Tryd.prog Tryd.lays193_ren := {
  mixed := by kernel_rfl
  f193 := Tryd.func67.trans (congrArg some (by kernel_rfl))
  t0 := Tryd.underlying0
  a0 := Tryd.isAgg0
  z0 := Tryd.sizeOf0
  v0 := Tryd.zeroValue0
  t3 := Tryd.underlying3
  a3 := Tryd.isAgg3
  z3 := Tryd.sizeOf3
  v3 := Tryd.zeroValue3
  t4 := Tryd.underlying4
  a4 := Tryd.isAgg4
  z4 := Tryd.sizeOf4
  v4 := Tryd.zeroValue4
  t9 := Tryd.underlying9
  a9 := Tryd.isAgg9
  z9 := Tryd.sizeOf9
  v9 := Tryd.zeroValue9
  t31 := Tryd.underlying29
  a31 := Tryd.isAgg29
  z31 := Tryd.sizeOf29
  v31 := Tryd.zeroValue29 }
open Go.RowKit Go.Lib in
/-- slices.Equal at []string: "Equal reports whether two slices are equal: the same length and all elements equal. If the lengths are different, Equal returns false. Otherwise, the elements are compared in increasing index order, and the comparison stops at the first unequal pair. Empty and nil slices are considered equal.": IT RETURNS WHETHER THE TWO LISTS OF ELEMENTS ARE ONE; the world is as it was but for the count of draws (the test 's1[i] != s2[i]' has two reads, whose order the model draws, once a round). 'xs', 'ys': what the cells behind the two addresses hold (the spare capacity too, if you have it); 'xs.take n', 'ys.take m': the elements. THE TWO SLICES MAY OVERLAP. (LAID: no walk: one application.) -/
theorem Tryd.slices_Equal_string (b1 o1 n c b2 o2 m d : Nat) (xs ys : List ByteArray) (w : World) (hx : n ≤ xs.length) (hy : m ≤ ys.length) (hbig : n ≤ 9223372036854775807) (hbig2 : m ≤ 9223372036854775807) (hc1 : ∀ j, j < xs.length → w.cell? ⟨b1, o1 + j, none⟩ = some (.string (xs.getD j ByteArray.empty))) (hc2 : ∀ j, j < ys.length → w.cell? ⟨b2, o2 + j, none⟩ = some (.string (ys.getD j ByteArray.empty))) :
    Calls Tryd.prog 67 #[.slice (some ⟨b1, o1, none⟩) n c, .slice (some ⟨b2, o2, none⟩) m d] w fun e w' => e = .returned (.bool (decide (xs.take n = ys.take m))) ∧ ∃ q, w' = w.drewN q := Any.slices_Equal_string Tryd.lays193 b1 o1 n c b2 o2 m d xs ys w hx hy hbig hbig2 hc1 hc2
open Go.RowKit Go.Lib in
/-- The same where the first is of length 0 (a nil one too): no cell is asked for. (LAID: no walk: one application.) -/
theorem Tryd.slices_Equal_string_empty (a1 a2 : Option Addr) (c m d : Nat) (w : World) (hbig2 : m ≤ 9223372036854775807) :
    Calls Tryd.prog 67 #[.slice a1 0 c, .slice a2 m d] w fun e w' => e = .returned (.bool (decide (m = 0))) ∧ w' = w := Any.slices_Equal_string_empty Tryd.lays193 a1 a2 c m d w hbig2
open Go.RowKit Go.Lib in
theorem Tryd.slices_Equal_string_lens (a1 a2 : Option Addr) (n c m d : Nat) (w : World) (hnm : n ≠ m) :
    Calls Tryd.prog 67 #[.slice a1 n c, .slice a2 m d] w fun e w' => e = .returned (.bool false) ∧ w' = w := Any.slices_Equal_string_lens Tryd.lays193 a1 a2 n c m d w hnm
end Go.Proofs
