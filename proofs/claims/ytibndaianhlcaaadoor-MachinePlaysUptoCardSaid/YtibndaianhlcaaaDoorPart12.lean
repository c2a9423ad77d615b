/- machine.user. machine.Reset. slices.DeleteFunc as Do calls it: the closures. slices.DeleteFunc: what its loop does to a row. law20: copied. -/
import Derived.Test.YtibndaianhlcaaaDoorPart11
namespace Go.Proofs.YtibndaianhlcaaaDoor
open Go.RowKit Go.Sort Go.Shelf
set_option linter.unusedVariables false
set_option linter.unusedSimpArgs false

section
variable {w w' : World} {F : Nat → Prop} {g : Nat} {s : Mach} {fA : Option Addr} {fn fc : Nat} {es : List EV} {uA : Option Addr} {un uc : Nat} {nA : Option Addr} {nn nc : Nat} {us : List SV} {pA : Option Addr} {pn pc : Nat}
/-- Its users turn. -/
theorem MachV.setUsers (h : MachV w F g s fA fn fc es uA un uc nA nn nc us pA pn pc) {G : Nat → Prop} (hg : w.grownBy w' (Value.slice uA un uc).ownBlock) (hF : ∀ k, F k → G k) {uA' : Option Addr} {un' uc' : Nat} {l : List Txt}
    (hu : Row w' G 9 1 (.slice uA' un' uc') un' (l.map encStr)) (hnew : ∀ k, (Value.slice uA' un' uc').ownBlock = some k → (Value.slice uA un uc).ownBlock = some k ∨ w.heap.size ≤ k) :
    MachV (w'.setCell ⟨g, 1, none⟩ (.slice uA' un' uc')) G g ⟨s.files, l, s.units, s.plan⟩ fA fn fc es uA' un' uc' nA nn nc us pA pn pc := by
  have ht := row_typed h.users
  have k1 : ∀ {e : TypeId}, e ≠ 9 → _ := fun {e} he => grown_other hg ht (e := e) he
  have hB : Blk w' g 36 _ := (k1 (by decide) g _ (0, 0) h.blk).trans h.blk
  have k2 : ∀ {e : TypeId}, e ≠ 36 → _ := fun {e} he => set_other hB (e := e) he 1 (.slice uA' un' uc')
  have hs : w'.heap.size ≤ (w'.setCell ⟨g, 1, none⟩ (.slice uA' un' uc')).heap.size := by simp [World.setCell]
  have str : ∀ {v : Value} {n : Nat} {xs : List Value}, Row w F 9 1 v n xs → (∀ k, (Value.slice uA un uc).ownBlock = some k → v.ownBlock ≠ some k) → Row (w'.setCell ⟨g, 1, none⟩ (.slice uA' un' uc')) G 9 1 v n xs := fun hr hsep =>
    ((hr.kept (fun k hk => hg.block k (hr.own.lt k hk).2 (fun e => hsep k e.symm hk)) hr.foot).other (k2 (by decide))).wide hF
  refine ⟨hB.set_ 1 _, hF _ h.foot, ((h.files.other (k1 (by decide))).other (k2 (by decide))).wide hF, h.ents, fun e he => (((h.data e he).other (k1 (by decide))).other (k2 (by decide))).wide hF, hu.other (k2 (by decide)),
    ((h.units.other (k1 (by decide))).other (k2 (by decide))).wide hF, h.srvs, fun u hu' => str (h.req u hu') (fun k hk => (h.sep u hu' k hk).1), fun u hu' => str (h.aft u hu') (fun k hk => (h.sep u hu' k hk).2), ((h.plan.other hg.size (k1 (by decide))).other hs (k2 (by decide))).wide hF, fun u hu' k hk => ?_⟩
  rcases hnew k hk with h1 | h1
  · exact h.sep u hu' k h1
  · exact ⟨fun e => by have := ((h.req u hu').own.lt k e).2; omega, fun e => by have := ((h.aft u hu').own.lt k e).2; omega⟩
theorem MachV.kept1 (h : MachV w F g s fA fn fc es uA un uc nA nn nc us pA pn pc) (hg : w.grownBy w' (Value.slice uA un uc).ownBlock) : w'.cell? ⟨g, 1, none⟩ = some (.slice uA un uc) ∧ w'.frozen? ⟨g, 1, none⟩ = false := by
  have hk := grown_other hg (row_typed h.users) (e := 36) (by decide) g _ (0, 0) h.blk
  have hB : Blk w' g 36 _ := hk.trans h.blk
  exact ⟨hB.cell 1, hB.frozen 1⟩
end
set_option maxRecDepth 100000 in
set_option maxHeartbeats 2000000 in
theorem user_any {w : World} {F : Nat → Prop} {g : Nat} {s : Mach} (h : MachAt w F g s) (hr : Rises s.users) (hn : s.users.length ≤ 1000000) (name : Txt) (hname : name.length ≤ 1000000000) (hFl : ∀ k, F k → k < w.heap.size) :
    Calls Tryd.prog 25 #[.pointer (some ⟨g, 0, none⟩), .string ⟨name.toArray⟩] w (MachPost w F g (doUser s name)) := by
  obtain ⟨fA, fn, fc, es, uA, un, uc, nA, nn, nc, us, pA, pn, pc, h⟩ := h
  have hnm := name_any ⟨name.toArray⟩ w (by show name.toArray.size ≤ maxLen; rw [List.size_toArray]; unfold maxLen; omega)
  have ht : (ByteArray.mk name.toArray).data.toList = name := rfl
  rw [ht] at hnm
  have hun := h.ulen
  have H := Lib.hid h
  have fin : Hid (∀ k w', Below w.heap.size w w' → MachPost w F g (s, k) (.returned (.int .i64 k)) w') := fun k w' hb => ⟨rfl, ⟨fA, fn, fc, es, uA, un, uc, nA, nn, nc, us, pA, pn, pc, (H.out.below hb).wide (fn_wide _ _ _)⟩, (Step.of_below hb F).fn⟩
  have HFL := Lib.hid hFl
  have HR := Lib.hid hr
  have HN := Lib.hid hn
  have HUN := Lib.hid hun
  clear ht hFl hr
  cases hm : nameB name with
  | false =>
    rw [hm] at hnm
    have HX := Lib.hid (show doUser s name = (s, 70) by unfold doUser; rw [if_neg (by rw [hm]; decide)])
    clear hm h hun hn
    go_enter Tryd.func25, Tryd.ntmps25
    go_wp2_with (go_at_call 45; refine hnm.mono ?_; clear hnm; rintro e w2 ⟨rfl, hb2⟩)
    go_ret
    rw [HX.out]
    exact fin.out 70 _ hb2
  | true =>
    rw [hm] at hnm
    obtain ⟨k, hk⟩ : ∃ k, k = aheadN s.users name := ⟨_, rfl⟩
    have HK := Lib.hid hk
    have hkn : k ≤ un := by rw [hk]; have := aheadN_le s.users name; omega
    have hbs : Hid (∀ {W : World}, Below w.heap.size w W → Calls Tryd.prog 46 #[.slice uA un uc, .string ⟨name.toArray⟩] W fun e w' => e = .returned (.tuple #[.int .i64 (k : Int), .bool (decide (s.users[k]? = some name))]) ∧ ∃ q, w' = W.drewN q) := fun hb => by
      rw [hk]; exact bs_any ((H.out.users.slc').below hb) HR.out (by have := HN.out; have := HUN.out; omega) name
    have HM := Lib.hid hm
    cases hat : decide (s.users[k]? = some name) with
    | true =>
      rw [hat] at hbs
      have HX := Lib.hid (show doUser s name = (s, 0) by unfold doUser; rw [if_pos HM.out, if_pos (by rw [← HK.out]; exact of_decide_eq_true hat)])
      clear hm h hun hn hat hk
      go_enter Tryd.func25, Tryd.ntmps25
      go_wp2_with (first
        | (go_at_call 45; refine hnm.mono ?_; clear hnm; rintro e w2 ⟨rfl, hb2⟩; have m1 := (H.out.below hb2).facts.2.1; have HB2 := Lib.hid hb2; clear hb2)
        | (go_at_call 46; refine (hbs.out HB2.out).mono ?_; rintro e w3 ⟨rfl, q, rfl⟩))
      go_ret
      rw [HX.out]
      exact fin.out 0 _ (bel_drewN HB2.out q)
    | false =>
      rw [hat] at hbs
      have HAT := Lib.hid (of_decide_eq_false hat)
      clear hat
      by_cases h16 : un = 16
      · have HX := Lib.hid (show doUser s name = (s, 70) by unfold doUser; rw [if_pos HM.out, if_neg (by rw [← HK.out]; exact HAT.out), if_pos (by omega)])
        have h16b : ((un : Int) == 16) = true := by rw [h16]; rfl
        clear hm h hun hn hk h16
        go_enter Tryd.func25, Tryd.ntmps25
        go_wp2_with (first
          | (go_at_call 45; refine hnm.mono ?_; clear hnm; rintro e w2 ⟨rfl, hb2⟩; have m1 := (H.out.below hb2).facts.2.1; have HB2 := Lib.hid hb2; clear hb2)
          | (go_at_call 46; refine (hbs.out HB2.out).mono ?_; rintro e w3 ⟨rfl, q, rfl⟩))
        go_ret
        rw [HX.out]
        exact fin.out 70 _ (bel_drewN HB2.out q)
      · have HX := Lib.hid (show doUser s name = (⟨s.files, insA s.users k name, s.units, s.plan⟩, 0) by unfold doUser; rw [if_pos HM.out, if_neg (by rw [← HK.out]; exact HAT.out), if_neg (by omega), ← HK.out])
        have h16b : ((un : Int) == 16) = false := by rw [beq_eq_false_iff_ne]; omega
        have hun9 : un ≤ 1000000000 := by omega
        have hins : Hid (∀ {W : World}, Below w.heap.size w W → Calls Tryd.prog 47 #[.slice uA un uc, .int .i64 (k : Int), .slice (some ⟨W.heap.size, 0, none⟩) 1 1] (W.alloc (.cells #[.string ⟨name.toArray⟩] 9)) (InsPost (W.alloc (.cells #[.string ⟨name.toArray⟩] 9)) F uA un uc s.users k name)) := fun {W} hb =>
          insS_any (w := W.alloc (.cells #[.string ⟨name.toArray⟩] 9)) (H.out.below (hb.alloc hb.size _)).users hkn hun9 name (Blk.new W _ _) (fun h9 => by have := HFL.out _ h9; have := hb.size; omega)
        clear hm h hun hn hk
        go_enter Tryd.func25, Tryd.ntmps25
        go_wp2_with (first
          | (go_at_call 45; refine hnm.mono ?_; clear hnm; rintro e w2 ⟨rfl, hb2⟩; have m1 := (H.out.below hb2).facts.2.1; have hg2 : g < w2.heap.size := Nat.lt_of_lt_of_le H.out.blk.lt hb2.size; have HB2 := Lib.hid hb2; clear hb2)
          | (go_at_call 46; refine (hbs.out HB2.out).mono ?_; rintro e w3 ⟨rfl, q, rfl⟩; have hi9 := hins.out (bel_drewN HB2.out q))
          | (go_at_call 47; go_loud (refine hi9.mono ?_; clear hi9; rintro e w4 ⟨A4, c4, rfl, hR4, hg4, hn4⟩; have hbx : Below w.heap.size w ((w2.drewN q).alloc (.cells #[.string ⟨name.toArray⟩] 9)) := (bel_drewN HB2.out q).alloc HB2.out.size _; have hv4 := ((H.out.below hbx).setUsers (w' := w4) hg4 (fn_wide _ _ _) hR4 hn4); have hk4 := (H.out.below hbx).kept1 hg4; obtain ⟨m4, f4⟩ := hk4; have HV4 := Lib.hid hv4; have HG4 := Lib.hid hg4; have HBX := Lib.hid hbx; clear hR4 hg4 hn4 hv4 hbx)))
        go_ret
        rw [HX.out]
        have hst := ((Step.of_below HBX.out F).grown HG4.out (fun k hk => .inl (H.out.users.foot k hk))).setCell (p := ⟨g, 1, none⟩) (.inl H.out.foot) (.slice A4 (un + 1) c4)
        have hsz : (w4.setCell ⟨g, 1, none⟩ (.slice A4 (un + 1) c4)).heap.size = w4.heap.size := by simp [World.setCell]
        refine ⟨rfl, ⟨_, _, _, _, _, _, _, _, _, _, _, _, _, _, HV4.out.wide fun k hk => ?_⟩, hst.fn⟩
        have h9 := HBX.out.size
        unfold Fn
        rw [hsz]
        rcases hk with hk | hk
        · exact .inl hk
        · exact .inr ⟨by omega, hk.2⟩
end Go.Proofs.YtibndaianhlcaaaDoor
namespace Go.Proofs.YtibndaianhlcaaaDoor
open Go.RowKit Go.Sort Go.Shelf
set_option linter.unusedVariables false
set_option linter.unusedSimpArgs false

set_option maxRecDepth 100000 in
set_option maxHeartbeats 1000000 in
theorem reset_any {w : World} {F : Nat → Prop} {g : Nat} {s : Mach} (h : MachAt w F g s) :
    Calls Tryd.prog 14 #[.pointer (some ⟨g, 0, none⟩)] w fun e w' => e = .returned (.tuple #[]) ∧ MachAt w' F g ⟨[], [], [], s.plan⟩ ∧ Step w w' F F := by
  obtain ⟨fA, fn, fc, es, uA, un, uc, nA, nn, nc, us, pA, pn, pc, h⟩ := h
  obtain ⟨m0, m1, m2, _, mf⟩ := h.facts
  have f0 := mf 0
  have f1 := mf 1
  have f2 := mf 2
  have hB0 := h.blk
  have hB1 := hB0.set_ 0 (.slice none 0 0)
  have hB2 := hB1.set_ 1 (.slice none 0 0)
  have hB3 := hB2.set_ 2 (.slice none 0 0)
  have hp := ((h.plan.other (w' := w.setCell ⟨g, 0, none⟩ (.slice none 0 0)) (by simp [World.setCell]) (set_other hB0 (by decide) 0 _)).other (w' := (w.setCell ⟨g, 0, none⟩ (.slice none 0 0)).setCell ⟨g, 1, none⟩ (.slice none 0 0)) (by simp [World.setCell]) (set_other hB1 (by decide) 1 _)).other (w' := ((w.setCell ⟨g, 0, none⟩ (.slice none 0 0)).setCell ⟨g, 1, none⟩ (.slice none 0 0)).setCell ⟨g, 2, none⟩ (.slice none 0 0)) (by simp [World.setCell]) (set_other hB2 (by decide) 2 _)
  have HV : Hid (MachAt (((w.setCell ⟨g, 0, none⟩ (.slice none 0 0)).setCell ⟨g, 1, none⟩ (.slice none 0 0)).setCell ⟨g, 2, none⟩ (.slice none 0 0)) F g ⟨[], [], [], s.plan⟩) :=
    ⟨none, 0, 0, [], none, 0, 0, none, 0, 0, [], pA, pn, pc, hB3, h.foot, Row.nil _ _ _ _, rfl, (fun e he => by cases he), Row.nil _ _ _ _, Row.nil _ _ _ _, rfl, (fun u hu => by cases hu), (fun u hu => by cases hu), hp, fun u hu => by cases hu⟩
  have HS := Lib.hid ((((Step.refl w F).setCell (p := ⟨g, 0, none⟩) (.inl h.foot) (.slice none 0 0)).setCell (p := ⟨g, 1, none⟩) (.inl h.foot) (.slice none 0 0)).setCell (p := ⟨g, 2, none⟩) (.inl h.foot) (.slice none 0 0))
  clear h hB0 hB1 hB2 hB3 hp mf
  go_enter Tryd.func14, Tryd.ntmps14
  go_wp2_with (fail)
  go_end0
  exact ⟨rfl, HV.out, HS.out⟩
end Go.Proofs.YtibndaianhlcaaaDoor
namespace Go.Proofs.YtibndaianhlcaaaDoor
open Go.RowKit Go.Sort Go.Shelf
set_option linter.unusedVariables false
set_option linter.unusedSimpArgs false

theorem predE_any (x : EV) (name : Txt) (ba : Nat) (w : World) (hbn : w.cell? ⟨ba, 1, none⟩ = some (.string ⟨name.toArray⟩)) :
    Calls Tryd.prog 21 #[.agg (evArr x), .pointer (some ⟨ba, 0, none⟩)] w fun e w' => e = .returned (.bool (decide (x.path = name))) ∧ Below w.heap.size w w' := by
  have hlt : ba < w.heap.size := World.block_lt_of_cell? _ _ hbn
  have t2 : (ByteArray.mk name.toArray).toList = name := Go.ByteArray.toList_eq _
  have hb := (Below.refl w.heap.size w).alloc (Nat.le_refl _) (.cells (evArr x) 44)
  unfold evArr at hb ⊢
  obtain ⟨xp, xk, xd, xA, xn, xc⟩ := x
  have t1 : (ByteArray.mk xp.toArray).toList = xp := Go.ByteArray.toList_eq _
  simp only at hb ⊢
  cases h : (xp == name) with
  | true =>
    have H := Lib.hid (show xp = name by simpa using h)
    go_enter Tryd.func21, Tryd.ntmps21
    go_wp2
    go_ret
    exact ⟨by rw [decide_eq_true H.out]; rfl, hb⟩
  | false =>
    have H := Lib.hid (show ¬ xp = name by simpa using h)
    go_enter Tryd.func21, Tryd.ntmps21
    go_wp2
    go_ret
    exact ⟨by rw [decide_eq_false H.out]; rfl, hb⟩

theorem predS_any (x : Txt) (name : Txt) (ba : Nat) (w : World) (hbn : w.cell? ⟨ba, 1, none⟩ = some (.string ⟨name.toArray⟩)) :
    Calls Tryd.prog 23 #[.string ⟨x.toArray⟩, .pointer (some ⟨ba, 0, none⟩)] w fun e w' => e = .returned (.bool (decide (x = name))) ∧ Below w.heap.size w w' := by
  have hlt : ba < w.heap.size := World.block_lt_of_cell? _ _ hbn
  have t2 : (ByteArray.mk name.toArray).toList = name := Go.ByteArray.toList_eq _
  have hb := Below.refl w.heap.size w
  have t1 : (ByteArray.mk x.toArray).toList = x := Go.ByteArray.toList_eq _
  cases h : (x == name) with
  | true =>
    have H := Lib.hid (show x = name by simpa using h)
    go_enter Tryd.func23, Tryd.ntmps23
    go_wp2
    go_ret
    exact ⟨by rw [decide_eq_true H.out]; rfl, hb⟩
  | false =>
    have H := Lib.hid (show ¬ x = name by simpa using h)
    go_enter Tryd.func23, Tryd.ntmps23
    go_wp2
    go_ret
    exact ⟨by rw [decide_eq_false H.out]; rfl, hb⟩

/-- What slices.IndexFunc gives. -/
def FoundAtE (es : List EV) (name : Txt) (r : Int) : Prop := (r = -1 ∧ ∀ i (hi : i < es.length), es[i].path ≠ name) ∨ (∃ k : Nat, ∃ hk : k < es.length, r = (k : Int) ∧ es[k].path = name ∧ ∀ i (hi : i < es.length), i < k → es[i].path ≠ name)
set_option maxRecDepth 100000 in
set_option maxHeartbeats 1000000 in
theorem idxE_any {w : World} {B : Nat} {A : Option Addr} {n c : Nat} {es : List EV} (h : EntsAt w B A n c es) (hB : B ≤ w.heap.size) (hn : n ≤ 1000000000) (name : Txt) (ba : Nat) (hbn : w.cell? ⟨ba, 1, none⟩ = some (.string ⟨name.toArray⟩)) :
    Calls Tryd.prog 38 #[.slice A n c, .func (.func 21) #[] #[.pointer (some ⟨ba, 0, none⟩)]] w fun e w' => ∃ r : Int, e = .returned (.int .i64 r) ∧ FoundAtE es name r ∧ Below w.heap.size w w' := by
  have hbl : ba < w.heap.size := World.block_lt_of_cell? _ _ hbn
  have hlen : es.length = n := h.len
  have H := Lib.hid h
  have HL := Lib.hid hlen
  clear h hlen
  go_enter Tryd.func38, Tryd.ntmps38
  go_wp2_with (fail)
  go_loopw [8] (fun i wr => ∃ k : Nat, k ≤ n ∧ i = .int .i64 (k : Int) ∧ Aside (∀ i (hi : i < es.length), i < k → es[i].path ≠ name) ∧ Aside (Below w.heap.size w wr)) (fun i _ => n - (intOf i).toNat)
  case atStart => exact ⟨0, Nat.zero_le _, rfl, fun i _ h => absurd h (Nat.not_lt_zero _), Below.refl _ _⟩
  case round =>
    obtain ⟨k, hk, rfl, hno, hb⟩ := hrel
    by_cases hlt : k < n
    · have hk1 : k + 1 ≤ n := hlt
      obtain ⟨b, off, rfl, hbB, hl, c0, c1, c2, _⟩ := (H.out.below (hb.out.mono hB)).at_ hlt
      have hp := predE_any es[k] name ba wr ((hb.out.cell (p := ⟨ba, 1, none⟩) hbl).trans hbn)
      by_cases hhit : es[k].path = name
      · have HA := Lib.hid (show FoundAtE es name (k : Int) from .inr ⟨k, hl, rfl, hhit, hno.out⟩)
        rw [decide_eq_true hhit] at hp
        clear hhit
        unfold evArr at hp
        generalize es[k] = x at *
        obtain ⟨xp, xk, xd, xA, xn, xc⟩ := x
        simp only at hp c0 c1 c2
        go_wp2_with (go_at_call 21; refine hp.mono ?_; clear hp; rintro e2 w2 ⟨rfl, hb2⟩)
        go_ret
        exact ⟨_, rfl, HA.out, hb.out.trans (hb2.mono hb.out.size)⟩
      · have HN := Lib.hid (show ∀ i (hi : i < es.length), i < k + 1 → es[i].path ≠ name from fun i hi hik => by
          rcases Nat.lt_or_ge i k with h1 | h1
          · exact hno.out i hi h1
          · obtain rfl : i = k := by omega
            exact hhit)
        rw [decide_eq_false hhit] at hp
        clear hhit
        unfold evArr at hp
        generalize es[k] = x at *
        obtain ⟨xp, xk, xd, xA, xn, xc⟩ := x
        simp only at hp c0 c1 c2
        go_wp2_with (go_at_call 21; refine hp.mono ?_; clear hp; rintro e2 w2 ⟨rfl, hb2⟩)
        exact ⟨⟨k + 1, hk1, by go_num, HN.out, hb.out.trans (hb2.mono hb.out.size)⟩, by clear HN hb2; simp [intOf]; omega⟩
    · have HF := Lib.hid (show FoundAtE es name (-1) from .inl ⟨rfl, fun i hi => hno.out i hi (by have := HL.out; omega)⟩)
      go_wp2_with (fail)
      go_ret
      exact ⟨_, rfl, HF.out, hb.out⟩

/-- What slices.IndexFunc gives. -/
def FoundAtS (l : List Txt) (name : Txt) (r : Int) : Prop := (r = -1 ∧ ∀ i (hi : i < l.length), l[i] ≠ name) ∨ (∃ k : Nat, ∃ hk : k < l.length, r = (k : Int) ∧ l[k] = name ∧ ∀ i (hi : i < l.length), i < k → l[i] ≠ name)
set_option maxRecDepth 100000 in
set_option maxHeartbeats 1000000 in
theorem idxS_any {w : World} {B : Nat} {A : Option Addr} {n c : Nat} {l : List Txt} (h : Slc w B 1 A n c (l.map encStr)) (hB : B ≤ w.heap.size) (hn : n ≤ 1000000000) (name : Txt) (ba : Nat) (hbn : w.cell? ⟨ba, 1, none⟩ = some (.string ⟨name.toArray⟩)) :
    Calls Tryd.prog 39 #[.slice A n c, .func (.func 23) #[] #[.pointer (some ⟨ba, 0, none⟩)]] w fun e w' => ∃ r : Int, e = .returned (.int .i64 r) ∧ FoundAtS l name r ∧ Below w.heap.size w w' := by
  have hbl : ba < w.heap.size := World.block_lt_of_cell? _ _ hbn
  have hlen : l.length = n := by have := h.len; simpa using this
  have H := Lib.hid h
  have HL := Lib.hid hlen
  clear h hlen
  go_enter Tryd.func39, Tryd.ntmps39
  go_wp2_with (fail)
  go_loopw [8] (fun i wr => ∃ k : Nat, k ≤ n ∧ i = .int .i64 (k : Int) ∧ Aside (∀ i (hi : i < l.length), i < k → l[i] ≠ name) ∧ Aside (Below w.heap.size w wr)) (fun i _ => n - (intOf i).toNat)
  case atStart => exact ⟨0, Nat.zero_le _, rfl, fun i _ h => absurd h (Nat.not_lt_zero _), Below.refl _ _⟩
  case round =>
    obtain ⟨k, hk, rfl, hno, hb⟩ := hrel
    by_cases hlt : k < n
    · have hk1 : k + 1 ≤ n := hlt
      obtain ⟨b, off, rfl, hbB, hc⟩ := (H.out.below (hb.out.mono hB)).at_ (show 0 < n by omega)
      have hl : k < l.length := by rw [HL.out]; exact hlt
      have c0 : wr.cell? ⟨b, off + k, none⟩ = some (.string ⟨l[k].toArray⟩) := hc k _ (by rw [List.getElem?_map, List.getElem?_eq_getElem hl]; rfl)
      clear hc
      have hp := predS_any l[k] name ba wr ((hb.out.cell (p := ⟨ba, 1, none⟩) hbl).trans hbn)
      by_cases hhit : l[k] = name
      · have HA := Lib.hid (show FoundAtS l name (k : Int) from .inr ⟨k, hl, rfl, hhit, hno.out⟩)
        rw [decide_eq_true hhit] at hp
        clear hhit
        generalize l[k] = x at *
        go_wp2_with (go_at_call 23; refine hp.mono ?_; clear hp; rintro e2 w2 ⟨rfl, hb2⟩)
        go_ret
        exact ⟨_, rfl, HA.out, hb.out.trans (hb2.mono hb.out.size)⟩
      · have HN := Lib.hid (show ∀ i (hi : i < l.length), i < k + 1 → l[i] ≠ name from fun i hi hik => by
          rcases Nat.lt_or_ge i k with h1 | h1
          · exact hno.out i hi h1
          · obtain rfl : i = k := by omega
            exact hhit)
        rw [decide_eq_false hhit] at hp
        clear hhit
        generalize l[k] = x at *
        go_wp2_with (go_at_call 23; refine hp.mono ?_; clear hp; rintro e2 w2 ⟨rfl, hb2⟩)
        exact ⟨⟨k + 1, hk1, by go_num, HN.out, hb.out.trans (hb2.mono hb.out.size)⟩, by clear HN hb2; simp [intOf]; omega⟩
    · have HF := Lib.hid (show FoundAtS l name (-1) from .inl ⟨rfl, fun i hi => hno.out i hi (by have := HL.out; omega)⟩)
      go_wp2_with (fail)
      go_ret
      exact ⟨_, rfl, HF.out, hb.out⟩

end Go.Proofs.YtibndaianhlcaaaDoor
namespace Go.Proofs.YtibndaianhlcaaaDoor
open Go.RowKit Go.Sort Go.Shelf
set_option linter.unusedVariables false
set_option linter.unusedSimpArgs false

theorem sets_rec {α : Type} (cells : α → List Value) (sz : Nat) (hsz : ∀ x, (cells x).length = sz) {R : List α} {cur : Array Value} {n c : Nat} (hc : cur.size = c * sz) (hn : R.length = n) (hnc : n ≤ c) (ht : cur.toList.take (n * sz) = R.flatMap cells) {i : Nat} (hi : i < n) (x : α) :
    (sets cur (i * sz) (cells x)).toList.take (n * sz) = (R.set i x).flatMap cells := by
  have hcl : cur.toList.length = c * sz := by rw [Array.length_toList, hc]
  have h1 : i * sz + sz ≤ n * sz := by rw [← Nat.succ_mul]; exact Nat.mul_le_mul_right _ hi
  have h2 : n * sz ≤ c * sz := Nat.mul_le_mul_right _ hnc
  have hfm := fun k => flatMap_take cells sz R k (fun x _ => hsz x)
  rw [sets_list _ _ _ (by rw [hsz, hc]; omega), hsz, List.set_eq_take_append_cons_drop, if_pos (by omega), List.flatMap_append, List.flatMap_cons, ← (hfm i).1, ← (hfm (i + 1)).2, ← ht, List.take_take, Nat.min_eq_left (by omega), List.append_assoc, List.take_append]
  have h3 : (cur.toList.take (i * sz)).length = i * sz := by rw [List.length_take]; omega
  rw [List.take_of_length_le (by omega), h3]
  congr 1
  rw [List.take_append, hsz, List.take_of_length_le (by rw [hsz]; omega)]
  congr 1
  rw [Nat.succ_mul, List.take_drop]
  congr 2
  omega
/-- The row while it is gone through: what is kept of the first j, then as it was from i on. -/
def midR {α : Type} (p : α → Bool) (l : List α) (i j : Nat) : List α := (l.take j).filter p ++ l.drop i
theorem midR_len {α : Type} (p : α → Bool) (l : List α) {i j : Nat} (h : ((l.take j).filter p).length = i) (hi : i ≤ l.length) : (midR p l i j).length = l.length := by
  unfold midR
  rw [List.length_append, h, List.length_drop]
  omega
theorem midR_get {α : Type} (p : α → Bool) (l : List α) {i j : Nat} (h : ((l.take j).filter p).length = i) (hij : i ≤ j) : (midR p l i j)[j]? = l[j]? := by
  unfold midR
  rw [List.getElem?_append_right (by omega), h, List.getElem?_drop]
  congr 1
  omega
theorem midR_keep {α : Type} (p : α → Bool) (l : List α) {i j : Nat} (h : ((l.take j).filter p).length = i) (hij : i ≤ j) (hj : j < l.length) (hp : p l[j] = true) : (midR p l i j).set i l[j] = midR p l (i + 1) (j + 1) ∧ ((l.take (j + 1)).filter p).length = i + 1 := by
  have e : (l.take (j + 1)).filter p = (l.take j).filter p ++ [l[j]] := by
    rw [List.take_succ_eq_append_getElem hj, List.filter_append, List.filter_cons, if_pos hp, List.filter_nil]
  refine ⟨?_, by rw [e, List.length_append, h]; rfl⟩
  unfold midR
  rw [e, List.set_append_right _ _ (by omega), h, Nat.sub_self, List.append_assoc]
  congr 1
  rw [List.drop_eq_getElem_cons (show i < l.length by omega)]
  rfl
theorem midR_drop {α : Type} (p : α → Bool) (l : List α) {j : Nat} (hj : j < l.length) (hp : p l[j] = false) : (l.take (j + 1)).filter p = (l.take j).filter p := by
  rw [List.take_succ_eq_append_getElem hj, List.filter_append, List.filter_cons, if_neg (by rw [hp]; decide), List.filter_nil, List.append_nil]
theorem midR_start {α : Type} (p : α → Bool) (l : List α) {k : Nat} (hk : k < l.length) (h1 : ∀ i (hi : i < l.length), i < k → p l[i] = true) (h2 : p l[k] = false) : midR p l k (k + 1) = l ∧ ((l.take (k + 1)).filter p).length = k := by
  have e : (l.take k).filter p = l.take k := by
    rw [List.filter_eq_self]
    intro x hx
    obtain ⟨i, hi, rfl⟩ := List.mem_iff_getElem.1 hx
    rw [List.length_take] at hi
    rw [List.getElem_take]
    exact h1 i (by omega) (by omega)
  unfold midR
  rw [midR_drop p l hk h2, e, List.take_append_drop]
  exact ⟨rfl, by rw [List.length_take]; omega⟩
theorem midR_end {α : Type} (p : α → Bool) (l : List α) {i : Nat} : (midR p l i l.length).take (l.filter p).length = l.filter p := by
  unfold midR
  rw [List.take_length, List.take_append_of_le_length (Nat.le_refl _), List.take_length]
/-- clear of what is left behind. -/
theorem run_clear_any {W : World} {T sl : TypeId} {z : Value} {sz : Nat} {g : Nat} {cur : Array Value} {off N c : Nat} (hu : Tryd.prog.underlying sl = some (.slice T)) (hz : ∀ w, (zeroValue T).run Tryd.prog w = .ok z w) (hzs : z.cells.size = sz) (h1 : ∀ v ∈ z.cells.toList, v.oneCell' = true) (hB : Blk W g T cur) (hs : off + N * sz ≤ cur.size) (hN : 0 < N) :
    ∃ vs : List Value, vs.length = N * sz ∧ ∀ ty, (Builtin.clear_ #[sl] ty #[.slice (some ⟨g, off, none⟩) N c]).run Tryd.prog W = .ok (.tuple #[]) (W.setCells g off vs) := by
  obtain ⟨vs, hvs⟩ : ∃ vs, vs = (Builtin.zeroCells z.cells N).toList := ⟨_, rfl⟩
  have hvl : vs.length = N * sz := by rw [hvs, Array.length_toList, size_zeroCells, hzs]
  have hone : ∀ v ∈ vs, v.oneCell' = true := by
    intro v hv
    rw [hvs] at hv
    simp only [Builtin.zeroCells, Array.toList_map, List.mem_map] at hv
    obtain ⟨i, hi, rfl⟩ := hv
    have hi2 : i < N * z.cells.size := by simpa using hi
    have hp : 0 < z.cells.size := by
      rcases Nat.eq_zero_or_pos z.cells.size with h0 | h0
      · rw [h0] at hi2; simp at hi2
      · exact h0
    have hm : i % z.cells.size < z.cells.size := Nat.mod_lt _ hp
    rw [getElem!_pos z.cells _ hm]
    exact h1 _ (by simp)
  have hst := run_storeCells_cells (P := Tryd.prog) g off vs 0 W (fun j hj => by rw [hB.cell, Array.getElem?_eq_getElem (by omega)]; rfl) (fun j hj => hB.frozen _) hone
  simp only [Nat.add_zero] at hst
  refine ⟨vs, hvl, fun ty => ?_⟩
  have e : (Builtin.zeroCells z.cells N).toList = vs := hvs.symm
  clear hvs hvl
  obtain ⟨m, rfl⟩ : ∃ m, N = m + 1 := ⟨N - 1, by omega⟩
  simp [Builtin.clear_, run_underlying hu, hz, e, hst]
end Go.Proofs.YtibndaianhlcaaaDoor
namespace Go.Proofs.YtibndaianhlcaaaDoor
open Go.RowKit Go.Sort Go.Shelf
set_option linter.unusedVariables false
set_option linter.unusedSimpArgs false

/-- A step as memory has it. -/
structure AV where
  kind : Int
  name : Txt
  file : EV
  unit : SV
def AV.act (a : AV) : ActP := ⟨a.kind, a.name, a.file.ent, a.unit.srv⟩
def avArr (a : AV) : Array Value := #[.int .i64 a.kind, .string ⟨a.name.toArray⟩, .string ⟨a.file.path.toArray⟩, .int .i64 a.file.kind, .slice a.file.A a.file.n a.file.c, .string ⟨a.unit.name.toArray⟩, .string ⟨a.unit.start.toArray⟩, .slice a.unit.A a.unit.n a.unit.c, .slice a.unit.A2 a.unit.n2 a.unit.c2]
structure ActAt (w : World) (B : Nat) (a : AV) : Prop where
  data : Slc w B 1 a.file.A a.file.n a.file.c (a.file.data.map bv)
  req : Slc w B 1 a.unit.A a.unit.n a.unit.c (a.unit.req.map encStr)
  aft : Slc w B 1 a.unit.A2 a.unit.n2 a.unit.c2 (a.unit.aft.map encStr)
theorem ActAt.below {w w' : World} {B : Nat} {a : AV} (h : ActAt w B a) (hb : Below B w w') : ActAt w' B a := ⟨h.data.below hb, h.req.below hb, h.aft.below hb⟩
/-- A step in blocks of the call's own. -/
structure OwnAct (w : World) (F : Nat → Prop) (a : AV) : Prop where
  data : Row w F 5 1 (.slice a.file.A a.file.n a.file.c) a.file.n (a.file.data.map bv)
  req : Row w F 9 1 (.slice a.unit.A a.unit.n a.unit.c) a.unit.n (a.unit.req.map encStr)
  aft : Row w F 9 1 (.slice a.unit.A2 a.unit.n2 a.unit.c2) a.unit.n2 (a.unit.aft.map encStr)
  ne : ∀ k, (Value.slice a.unit.A a.unit.n a.unit.c).ownBlock = some k → (Value.slice a.unit.A2 a.unit.n2 a.unit.c2).ownBlock ≠ some k
theorem OwnAct.at_ {w : World} {F : Nat → Prop} {a : AV} (h : OwnAct w F a) : ActAt w w.heap.size a := ⟨h.data.slc', h.req.slc', h.aft.slc'⟩
theorem Row.set_ {w : World} {F : Nat → Prop} {e : TypeId} {sz : Nat} {v : Value} {n : Nat} {xs : List Value} (h : Row w F e sz v n xs) {p : Addr} (hp : ¬ F p.block) (u : Value) : Row (w.setCell p u) F e sz v n xs :=
  h.kept (fun k hk => Below.heap_setCell w p u k (by rintro rfl; exact hp (h.foot _ hk))) h.foot
theorem Row.setCells {F : Nat → Prop} {e : TypeId} {sz : Nat} {v : Value} {n : Nat} {xs : List Value} {g : Nat} (hp : ¬ F g) : ∀ (vs : List Value) (o : Nat) {w : World}, Row w F e sz v n xs → Row (w.setCells g o vs) F e sz v n xs
  | [], _, _, h => h
  | u :: r, o, _, h => Row.setCells hp r (o + 1) (h.set_ (p := ⟨g, o, none⟩) hp u)
theorem Row.belo {w w' : World} {F : Nat → Prop} {e : TypeId} {sz : Nat} {v : Value} {n : Nat} {xs : List Value} (h : Row w F e sz v n xs) (hb : Below w.heap.size w w') : Row w' F e sz v n xs :=
  h.kept (fun k hk => hb.block k (h.own.lt k hk).2) h.foot
structure CopiedB (W : World) (A : Option Addr) (n c : Nat) (l : List UInt8) (g c' : Nat) (w' : World) : Prop where
  run : (Builtin.append_ #[42, 42] 42 #[.slice (some ⟨W.heap.size, 0, none⟩) 0 0, .slice A n c]).run Tryd.prog (W.alloc (.cells #[] 5)) = .ok (.slice (some ⟨g, 0, none⟩) n c') w'
  own : w'.ownsRow W.heap.size 5 1 (.slice (some ⟨g, 0, none⟩) n c') n (l.map bv)
  ge : W.heap.size ≤ g
  lt : g < w'.heap.size
  bel : Below W.heap.size W w'
theorem bytes_copy {W : World} {B : Nat} {A : Option Addr} {n c : Nat} {l : List UInt8} (h : Slc W B 1 A n c (l.map bv)) (hB : B ≤ W.heap.size) (hn : n ≤ 1000000000) : ∃ g c' w', CopiedB W A n c l g c' w' := by
  have ho := empty_own W W.heap.size (Nat.le_refl _)
  have hb1 : Below W.heap.size W (W.alloc (.cells #[] 5)) := (Below.refl _ W).alloc (Nat.le_refl _) _
  obtain ⟨A3, c3, w3, r3, o3, g3, hv3⟩ := append_bytes (W.alloc (.cells #[] 5)) W.heap.size _ 0 [] ho B A n c l (h.below (hb1.mono hB)) (by omega) (by simp)
  rw [Nat.zero_add] at r3 o3
  rw [List.nil_append] at o3
  have hb3 := grown_below hb1 ho (by simp) g3
  rcases o3.2 with ⟨hnil, h0⟩ | ⟨gd, cap, cur, e1, e2, e3, _⟩
  · exfalso
    injection hnil with e1 e2 e3
    subst e1
    rcases hv3 with hv3 | hv3 <;> simp [Value.ownBlock] at hv3
  · injection e1 with e1
    subst e1
    exact ⟨gd, c3, w3, r3, o3, e2, (Array.getElem?_eq_some_iff.1 e3).1, hb3⟩
def ActLens (a : AV) : Prop := a.file.n ≤ 1000000000 ∧ a.unit.n ≤ 1000000000 ∧ a.unit.n2 ≤ 1000000000
set_option maxRecDepth 100000 in
set_option maxHeartbeats 2000000 in
theorem copied20_any {w : World} {B : Nat} {a : AV} (h : ActAt w B a) (hB : B ≤ w.heap.size) (hn : ActLens a) :
    Calls Tryd.prog 11 #[.agg (avArr a)] w fun e w' => ∃ a', e = .returned (.agg (avArr a')) ∧ a'.act = a.act ∧ OwnAct w' (fun k => w.heap.size ≤ k) a' ∧ ActLens a' ∧ Below w.heap.size w w' := by
  obtain ⟨kind, name, ⟨fp, fk, fd, fA, fn, fc⟩, ⟨nm, st, rq, A, n, c, af, A2, n2, c2⟩⟩ := a
  obtain ⟨h1, h2, h3⟩ := h
  obtain ⟨l1, l2, l3'⟩ := hn
  simp only at h1 h2 h3 l1 l2 l3'
  obtain ⟨cs, hcs⟩ : ∃ cs : Array Value, cs = #[.int .i64 kind, .string ⟨name.toArray⟩, .string ⟨fp.toArray⟩, .int .i64 fk, .slice fA fn fc, .string ⟨nm.toArray⟩, .string ⟨st.toArray⟩, .slice A n c, .slice A2 n2 c2] := ⟨_, rfl⟩
  obtain ⟨W1, hW1⟩ : ∃ W1, W1 = (w.alloc (.cells cs 48)).alloc (.cells #[.int .i64 0, .string .empty, .string .empty, .int .i64 0, .slice none 0 0, .string .empty, .string .empty, .slice none 0 0, .slice none 0 0] 48) := ⟨_, rfl⟩
  have hb1 : Below w.heap.size w W1 := by rw [hW1]; exact ((Below.refl _ w).alloc (Nat.le_refl _) _).alloc (by simp) _
  have hz1 : W1.heap.size = w.heap.size + 2 := by rw [hW1]; simp
  have hG1 : Blk W1 w.heap.size 48 cs := by rw [hW1]; exact (Blk.new _ _ _).alloc _
  obtain ⟨cr, hcr0⟩ : ∃ cr : Array Value, cr = #[.int .i64 0, .string .empty, .string .empty, .int .i64 0, .slice none 0 0, .string .empty, .string .empty, .slice none 0 0, .slice none 0 0] := ⟨_, rfl⟩
  have hcr : cr.size = 9 := by rw [hcr0]; rfl
  have hR1 : Blk W1 (w.heap.size + 1) 48 cr := by
    have := Blk.new (w.alloc (.cells cs 48)) 48 cr
    rw [World.size_alloc] at this
    rw [hW1, ← hcr0]
    exact this
  obtain ⟨F, hF⟩ : ∃ F : Nat → Prop, F = fun k => w.heap.size + 2 ≤ k := ⟨_, rfl⟩
  have hF0 : ¬ F w.heap.size := by rw [hF]; intro h; have h : w.heap.size + 2 ≤ w.heap.size := h; omega
  have hF1 : ¬ F (w.heap.size + 1) := by rw [hF]; intro h; have h : w.heap.size + 2 ≤ w.heap.size + 1 := h; omega
  have own : ∀ {W : World} {b : Nat} {e : TypeId} {v : Value} {n : Nat} {xs : List Value}, W.ownsRow b e 1 v n xs → w.heap.size + 2 ≤ b → Row W F e 1 v n xs := fun hr hb => ⟨⟨hr.1, hr.2.imp id fun ⟨g, cap, cur, e, _, r⟩ => ⟨g, cap, cur, e, Nat.zero_le _, r⟩⟩, fun k hk => by rw [hF]; have := (hr.lt k hk).1; show w.heap.size + 2 ≤ k; omega⟩
  obtain ⟨g3, c3, w3, S3⟩ := bytes_copy (h1.below (hb1.mono hB)) (by omega) l1
  have hG3 := hG1.below S3.bel hG1.lt
  have hR3 := hR1.below S3.bel hR1.lt
  have o3 := own S3.own (by omega)
  have hb3 := hb1.trans (S3.bel.mono hb1.size)
  obtain ⟨W4, hW4⟩ : ∃ W4, W4 = w3.setCell ⟨w.heap.size, 4, none⟩ (.slice (some ⟨g3, 0, none⟩) fn c3) := ⟨_, rfl⟩
  have hG4 := hG3.set_ 4 (.slice (some ⟨g3, 0, none⟩) fn c3)
  have o34 := o3.set_ (p := ⟨w.heap.size, 4, none⟩) hF0 (.slice (some ⟨g3, 0, none⟩) fn c3)
  have hb4 := hb3.setCell (p := ⟨w.heap.size, 4, none⟩) (Nat.le_refl _) (.slice (some ⟨g3, 0, none⟩) fn c3)
  have hR4 : Blk (w3.setCell ⟨w.heap.size, 4, none⟩ (.slice (some ⟨g3, 0, none⟩) fn c3)) (w.heap.size + 1) 48 cr := by
    unfold Blk at hR3 ⊢; rw [Below.heap_setCell w3 _ _ _ (by simp)]; exact hR3
  have hz4 : W4.heap.size = w3.heap.size := by rw [hW4]; simp [World.setCell]
  rw [← hW4] at hG4 o34 hb4 hR4
  have s13 := S3.bel.size
  obtain ⟨g5, c5, w5, S5⟩ := strs_copy (h2.below (hb4.mono hB)) (Nat.le_trans hB hb4.size) l2
  have hG5 := hG4.below S5.bel hG4.lt
  have hR5 := hR4.below S5.bel hR4.lt
  have o35 := o34.belo S5.bel
  have o5 := own S5.own (by omega)
  have hb5 := hb4.trans (S5.bel.mono hb4.size)
  obtain ⟨W6, hW6⟩ : ∃ W6, W6 = w5.setCell ⟨w.heap.size, 7, none⟩ (.slice (some ⟨g5, 0, none⟩) n c5) := ⟨_, rfl⟩
  have hG6 := hG5.set_ 7 (.slice (some ⟨g5, 0, none⟩) n c5)
  have o36 := o35.set_ (p := ⟨w.heap.size, 7, none⟩) hF0 (.slice (some ⟨g5, 0, none⟩) n c5)
  have o56 := o5.set_ (p := ⟨w.heap.size, 7, none⟩) hF0 (.slice (some ⟨g5, 0, none⟩) n c5)
  have hb6 := hb5.setCell (p := ⟨w.heap.size, 7, none⟩) (Nat.le_refl _) (.slice (some ⟨g5, 0, none⟩) n c5)
  have hR6 : Blk (w5.setCell ⟨w.heap.size, 7, none⟩ (.slice (some ⟨g5, 0, none⟩) n c5)) (w.heap.size + 1) 48 cr := by
    unfold Blk at hR5 ⊢; rw [Below.heap_setCell w5 _ _ _ (by simp)]; exact hR5
  have hz6 : W6.heap.size = w5.heap.size := by rw [hW6]; simp [World.setCell]
  rw [← hW6] at hG6 o36 o56 hb6 hR6
  have s35 := S5.bel.size
  obtain ⟨g7, c7, w7, S7⟩ := strs_copy (h3.below (hb6.mono hB)) (Nat.le_trans hB hb6.size) l3'
  have hG7 := hG6.below S7.bel hG6.lt
  have hR7 := hR6.below S7.bel hR6.lt
  have o37 := o36.belo S7.bel
  have o57 := o56.belo S7.bel
  have o7 := own S7.own (by omega)
  have hb7 := hb6.trans (S7.bel.mono hb6.size)
  have hG8 := hG7.set_ 8 (.slice (some ⟨g7, 0, none⟩) n2 c7)
  have o38 := o37.set_ (p := ⟨w.heap.size, 8, none⟩) hF0 (.slice (some ⟨g7, 0, none⟩) n2 c7)
  have o58 := o57.set_ (p := ⟨w.heap.size, 8, none⟩) hF0 (.slice (some ⟨g7, 0, none⟩) n2 c7)
  have o78 := o7.set_ (p := ⟨w.heap.size, 8, none⟩) hF0 (.slice (some ⟨g7, 0, none⟩) n2 c7)
  have hb8 := hb7.setCell (p := ⟨w.heap.size, 8, none⟩) (Nat.le_refl _) (.slice (some ⟨g7, 0, none⟩) n2 c7)
  have hR8 : Blk (w7.setCell ⟨w.heap.size, 8, none⟩ (.slice (some ⟨g7, 0, none⟩) n2 c7)) (w.heap.size + 1) 48 cr := by
    unfold Blk at hR7 ⊢; rw [Below.heap_setCell w7 _ _ _ (by simp)]; exact hR7
  obtain ⟨W8, hW8⟩ : ∃ W8, W8 = w7.setCell ⟨w.heap.size, 8, none⟩ (.slice (some ⟨g7, 0, none⟩) n2 c7) := ⟨_, rfl⟩
  rw [← hW8] at hG8 o38 o58 o78 hb8 hR8
  have s57 := S7.bel.size
  have t5 := S5.lt
  have t7 := S7.ge
  obtain ⟨vs, hvs⟩ : ∃ vs : List Value, vs = [.int .i64 kind, .string ⟨name.toArray⟩, .string ⟨fp.toArray⟩, .int .i64 fk, .slice (some ⟨g3, 0, none⟩) fn c3, .string ⟨nm.toArray⟩, .string ⟨st.toArray⟩, .slice (some ⟨g5, 0, none⟩) n c5, .slice (some ⟨g7, 0, none⟩) n2 c7] := ⟨_, rfl⟩
  have HW : ∀ k, F k → w.heap.size ≤ k := fun k hk => by rw [hF] at hk; have hk : w.heap.size + 2 ≤ k := hk; omega
  have hne57 : ∀ k, some g5 = some k → some g7 = some k → False := fun k h h' => by injection h with h; injection h' with h'; omega
  have HO : Hid (OwnAct (W8.setCells (w.heap.size + 1) 0 vs) (fun k => w.heap.size ≤ k) ⟨kind, name, ⟨fp, fk, fd, some ⟨g3, 0, none⟩, fn, c3⟩, ⟨nm, st, rq, some ⟨g5, 0, none⟩, n, c5, af, some ⟨g7, 0, none⟩, n2, c7⟩⟩) :=
    ⟨(Row.setCells hF1 vs 0 o38).wide HW, (Row.setCells hF1 vs 0 o58).wide HW, (Row.setCells hF1 vs 0 o78).wide HW, fun k hk e => hne57 k hk e⟩
  have HBL : Hid (Below w.heap.size w (W8.setCells (w.heap.size + 1) 0 vs)) := below_setCells (by omega) vs 0 hb8
  have hvl : vs.length = 9 := by rw [hvs]; rfl
  have HRES : Hid (Blk (W8.setCells (w.heap.size + 1) 0 vs) (w.heap.size + 1) 48 vs.toArray) := by
    have h9 := Blk.setCells vs 0 hR8
    have e : sets cr 0 vs = vs.toArray := by
      apply Array.toList_inj.1
      rw [sets_list _ _ _ (by omega), List.take_zero, List.nil_append, List.drop_eq_nil_of_le (by rw [Array.length_toList]; omega), List.append_nil]
    rwa [e] at h9
  have r3 := S3.run
  have r5 := S5.run
  have r7 := S7.run
  rw [hz1, hW1, hcs] at r3
  rw [hz4, hW4] at r5
  rw [hz6, hW6] at r7
  have HR3 := Lib.hid r3
  have HR5 := Lib.hid r5
  have HR7 := Lib.hid r7
  have x4 := hG3.cell 4
  have x7 := hG3.cell 7
  have y7 := hG5.cell 7
  have y8 := hG5.cell 8
  have z0 := hG7.cell 0
  have z1 := hG7.cell 1
  have z2 := hG7.cell 2
  have z3 := hG7.cell 3
  have z4 := hG7.cell 4
  have z5 := hG7.cell 5
  have z6 := hG7.cell 6
  have z7 := hG7.cell 7
  have z8 := hG7.cell 8
  have xf4 := hG3.frozen 4
  have yf7 := hG5.frozen 7
  have zf8 := hG7.frozen 8
  rw [hcs] at x4 x7 y7 y8 z0 z1 z2 z3 z4 z5 z6 z7 z8
  simp only [List.setIfInBounds_toArray, List.set_cons_zero, List.set_cons_succ, List.getElem?_toArray, List.getElem?_cons_zero, List.getElem?_cons_succ] at x4 x7 y7 y8 z0 z1 z2 z3 z4 z5 z6 z7 z8
  have q0 := hR7.cell 0
  have qf0 := hR7.frozen 0
  have q1 := hR7.cell 1
  have qf1 := hR7.frozen 1
  have q2 := hR7.cell 2
  have qf2 := hR7.frozen 2
  have q3 := hR7.cell 3
  have qf3 := hR7.frozen 3
  have q4 := hR7.cell 4
  have qf4 := hR7.frozen 4
  have q5 := hR7.cell 5
  have qf5 := hR7.frozen 5
  have q6 := hR7.cell 6
  have qf6 := hR7.frozen 6
  have q7 := hR7.cell 7
  have qf7 := hR7.frozen 7
  have q8 := hR7.cell 8
  have qf8 := hR7.frozen 8
  rw [hcr0] at q0 q1 q2 q3 q4 q5 q6 q7 q8
  simp only [List.getElem?_toArray, List.getElem?_cons_zero, List.getElem?_cons_succ] at q0 q1 q2 q3 q4 q5 q6 q7 q8
  have l3 : w.heap.size < w3.heap.size := by omega
  have l5 : w.heap.size < w5.heap.size := by omega
  have l7 : w.heap.size < w7.heap.size := by omega
  have HLN : Hid (ActLens ⟨kind, name, ⟨fp, fk, fd, some ⟨g3, 0, none⟩, fn, c3⟩, ⟨nm, st, rq, some ⟨g5, 0, none⟩, n, c5, af, some ⟨g7, 0, none⟩, n2, c7⟩⟩) := ⟨l1, l2, l3'⟩
  rw [hvs, hW8] at HO HBL HRES
  simp only [World.setCells, Nat.zero_add, Nat.reduceAdd] at HO HBL HRES
  clear S3 S5 S7 r3 r5 r7 hW1 hW4 hW6 hW8 hG1 hG3 hG4 hG5 hG6 hG7 hG8 hR1 hR3 hR4 hR5 hR6 hR7 hR8 o3 o34 o35 o36 o37 o38 o5 o56 o57 o58 o7 o78 hb1 hb3 hb4 hb5 hb6 hb7 hb8 own HW hF hF0 hF1 h1 h2 h3 hz1 hz4 hz6 hvs hvl hcr0 hcr hcs hne57 s13 s35 s57 t5 t7 l1 l2 l3'
  unfold avArr
  simp only
  go_enter Tryd.func11, Tryd.ntmps11
  go_wp2_with (first
    | (at_builtin; refine wpList_append_run rfl _ _ _ rfl rfl rfl HR3.out ?_; clear HR3)
    | (at_builtin; refine wpList_append_run rfl _ _ _ rfl rfl rfl HR5.out ?_; clear HR5)
    | (at_builtin; refine wpList_append_run rfl _ _ _ rfl rfl rfl HR7.out ?_; clear HR7))
  exact bodyPost_ret (results_aggr (t := 2) (g := w.heap.size + 1) rfl rfl Tryd.isAgg48 Tryd.sizeOf48 rfl HRES.out) rfl ⟨⟨kind, name, ⟨fp, fk, fd, some ⟨g3, 0, none⟩, fn, c3⟩, ⟨nm, st, rq, some ⟨g5, 0, none⟩, n, c5, af, some ⟨g7, 0, none⟩, n2, c7⟩⟩, rfl, rfl, HO.out, HLN.out, HBL.out⟩
end Go.Proofs.YtibndaianhlcaaaDoor
