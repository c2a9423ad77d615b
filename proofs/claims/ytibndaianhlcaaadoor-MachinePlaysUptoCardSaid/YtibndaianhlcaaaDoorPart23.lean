/- The reference of layer 20: Do. The walk of MachineAgain. law20: spoil, wreck: what is written over. -/
import Derived.Test.YtibndaianhlcaaaDoorPart21
import Derived.Test.YtibndaianhlcaaaDoorPart22
import Derived.Test.YtibndaianhlcaaaDoorPart16
namespace Go.Proofs.YtibndaianhlcaaaDoor
open Go.RowKit Go.Sort Go.Shelf
set_option linter.unusedVariables false
set_option linter.unusedSimpArgs false

section
variable {w w' : World} {R : Nat → Prop} {r : Nat} {s : Mach} {o : OV} {pA : Option Addr} {pn pc : Nat}
theorem RefPost.later {W : World} {res : Mach × Int} {e : Ending} (h : RefPost W R r res e w') (hb : Below w.heap.size w W) (hR : ¬ R r) (hrw : r < w.heap.size) : RefPost w R r res e w' := by
  obtain ⟨h1, ⟨o, pA, pn, pc, h2⟩, h3⟩ := h
  have hs := hb.size
  exact ⟨h1, ⟨o, pA, pn, pc, h2.wide (fun k hk => hk.imp id fun h => ⟨by omega, h.2⟩) (fun hk => by rcases hk with hk | hk; exact hR hk; omega)⟩, (Step.of_below hb _).trans h3⟩
theorem own_more {t e : TypeId} {sz : Nat} (T : RowT t e sz) {W : World} {base : Nat} {A : Option Addr} {m c : Nat} {xs : List Value} (ho : W.ownsRow base e sz (.slice A m c) m xs) (hb : base ≤ W.heap.size) {xc : Array Value} (hxc : xc.size = sz) (h1 : ∀ u ∈ xc.toList, u.oneCell' = true) (hm : m + 1 ≤ 1000000000) :
    ∃ A' c' w', (Builtin.append_ #[t, t] t #[.slice A m c, .slice (some ⟨W.heap.size, 0, none⟩) 1 1]).run Tryd.prog (W.alloc (.cells xc e)) = .ok (.slice A' (m + 1) c') w' ∧ w'.ownsRow base e sz (.slice A' (m + 1) c') (m + 1) (xs ++ xc.toList) ∧ ∀ {b0 : World}, Below base b0 W → Below base b0 w' := by
  have hs := (Blk.new W e xc).slc (sz := sz) (n := 1) (c := 1) (by omega) (Nat.le_refl _) (by decide)
  rw [Nat.one_mul, List.take_of_length_le (by rw [Array.length_toList]; omega)] at hs
  obtain ⟨A', c', w', r1, o1, g1, _⟩ := T.app (ho.alloc (.cells xc e)) hs h1 hm (by simp; omega)
  exact ⟨A', c', w', r1, o1, fun h => (h.alloc hb _).grown g1 (by simp; omega) (fun q hq => (ho.lt q hq).1)⟩
theorem own_drew {W : World} {base : Nat} {e : TypeId} {sz : Nat} {v : Value} {n : Nat} {xs : List Value} (h : W.ownsRow base e sz v n xs) (q : Nat) : (W.drewN q).ownsRow base e sz v n xs := h
theorem filt_succ {α : Type} (p : α → Bool) (l : List α) {k : Nat} (hk : k < l.length) : (l.take (k + 1)).filter p = (l.take k).filter p ++ (if p l[k] then [l[k]] else []) := by
  rw [List.take_succ_eq_append_getElem hk, List.filter_append]
  congr 1
  by_cases h : p l[k] = true
  · simp [h]
  · simp [h]
theorem filt_le {α : Type} (p : α → Bool) (l : List α) (k : Nat) : ((l.take k).filter p).length ≤ l.length := Nat.le_trans (List.length_filter_le ..) (by rw [List.length_take]; omega)
/-- The files that are kept. -/
theorem files_kept {W w9 : World} (h : RefV W R r s o pA pn pc) (hbW : Below w.heap.size w W) (hrw : r < w.heap.size) (hb9 : Below W.heap.size W w9) {A9 : Option Addr} {m9 c9 : Nat} {name : Txt} (ho : w9.ownsRow W.heap.size 44 3 (.slice A9 m9 c9) m9 ((o.es.filter (keepE name)).flatMap evCells)) :
    RefPost w R r (⟨s.files.filter fun x => decide (x.path ≠ name), s.users, s.units, s.plan⟩, 0) (.returned (.int .i64 0)) (w9.setCell ⟨r, 0, none⟩ (.slice A9 m9 c9)) := by
  have h9 := h.below hb9
  have hz := hbW.size
  have hb := hbW.trans (hb9.mono hz)
  have hout : ¬ Fn R w w9 r := fun hk => by rcases hk with hk | hk; exact h9.out hk; omega
  have hv := h9.wide (fn_wide R w w9) hout
  have hl : (o.es.filter (keepE name)).length = m9 := by have h1 := ho.1; rw [flatMap_len evCells 3 _ (fun o _ => evCells_length o)] at h1; omega
  have hset := hv.setFiles (es := o.es.filter (keepE name)) ⟨own_slc_of ho, hl, fun e he => h9.obs.at_.files.data e (List.mem_filter.1 he).1⟩ (fun a ha => by have := own_in ho a ha; exact .inr ⟨by omega, this.2⟩) (fun e he a ha => .inl (h9.obs.data e (List.mem_filter.1 he).1 a ha))
  refine ⟨rfl, ?_, step_bel_set hb r 0 _⟩
  rw [fn_set]
  rw [filter_ents, h.ents] at hset
  exact ⟨_, _, _, _, hset⟩
theorem users_kept {W w9 : World} (h : RefV W R r s o pA pn pc) (hbW : Below w.heap.size w W) (hrw : r < w.heap.size) (hb9 : Below W.heap.size W w9) {A9 : Option Addr} {m9 c9 : Nat} {name : Txt} (ho : w9.ownsRow W.heap.size 9 1 (.slice A9 m9 c9) m9 ((o.users.filter (keepT name)).map encStr)) :
    RefPost w R r (⟨s.files, s.users.filter fun x => decide (x ≠ name), s.units, s.plan⟩, 0) (.returned (.int .i64 0)) (w9.setCell ⟨r, 1, none⟩ (.slice A9 m9 c9)) := by
  have h9 := h.below hb9
  have hz := hbW.size
  have hb := hbW.trans (hb9.mono hz)
  have hout : ¬ Fn R w w9 r := fun hk => by rcases hk with hk | hk; exact h9.out hk; omega
  have hv := h9.wide (fn_wide R w w9) hout
  have hset := hv.setUsers (l := o.users.filter (keepT name)) (own_slc_of ho) (fun a ha => by have := own_in ho a ha; exact .inr ⟨by omega, this.2⟩)
  refine ⟨rfl, ?_, step_bel_set hb r 1 _⟩
  rw [fn_set]
  rw [filter_texts, h.users] at hset
  exact ⟨_, _, _, _, hset⟩
set_option maxRecDepth 100000 in
set_option maxHeartbeats 8000000 in
theorem refDo20_any (h : RefV w R r s o pA pn pc) (hg : GoodM s) (hRl : ∀ k, R k → k < w.heap.size) (hn : pn ≤ 1000000000) {B : Nat} (a : AV) (ha : ActAt w B a) (hB : B ≤ w.heap.size) (hs : SmallA a) (hsep : (∀ x, a.unit.A = some x → x.block ≠ r) ∧ (∀ x, a.unit.A2 = some x → x.block ≠ r)) :
    Calls Tryd.prog 16 #[.pointer (some ⟨r, 0, none⟩), .agg (avArr a)] w (RefPost w R r (doM s a.act)) := by
  have hl := h.lens
  have hrw := h.blk.lt
  have hout := h.out
  have hof : o.n ≤ 24 := by have := hg.nf; omega
  have hou : o.n2 ≤ 16 := by have := hg.nu; omega
  have hon : o.n3 ≤ 24 := by have := hg.nn; omega
  obtain ⟨W1, hW1⟩ : ∃ W1, W1 = w.alloc (.cells (avArr a) 48) := ⟨_, rfl⟩
  have hb1 : Below w.heap.size w W1 := by rw [hW1]; exact (Below.refl _ w).alloc (Nat.le_refl _) _
  have hz1 : W1.heap.size = w.heap.size + 1 := by rw [hW1]; simp
  have hG1 : Blk W1 w.heap.size 48 (avArr a) := by rw [hW1]; exact Blk.new _ _ _
  have h1 := h.below hb1
  have ha1 := ha.below (hb1.mono hB)
  have hB1 : B ≤ W1.heap.size := by omega
  have hRl1 : ∀ k, R k → k < W1.heap.size := fun k hk => by have := hRl k hk; omega
  have c1 := refStop20_any h1 hn (by omega) a.name
  have c4 := refFile20_any h1 (by omega) a ha1.data hB1 hs
  have c5 := refUser20_any h1 (by omega) a.name hs.name
  have c6 := refStart20_any h1 hRl1 hn (by omega) a ha1 hB1 hs hsep
  have H1 := Lib.hid h1
  have HB := Lib.hid hb1
  have HG1 := Lib.hid hG1
  have HL := Lib.hid hl
  have fin : Hid (∀ w', Below w.heap.size w w' → RefPost w R r (s, 70) (.returned (.int .i64 70)) w') := fun w' hb => ⟨rfl, ⟨_, _, _, _, (h.below hb).wide (fn_wide _ _ _) (h.fn w')⟩, (Step.of_below hb (fun k => k = r))⟩
  have x0 := hG1.cell 0
  have x1 := hG1.cell 1
  have x2 := hG1.cell 2
  have x3 := hG1.cell 3
  have x4 := hG1.cell 4
  have x5 := hG1.cell 5
  have x6 := hG1.cell 6
  have x7 := hG1.cell 7
  have x8 := hG1.cell 8
  have m0 := h1.facts.1
  have m1 := h1.facts.2.1
  have r1 := h1.blk.lt
  obtain ⟨kind, name, ⟨fp, fk, fd, fA, fn, fc⟩, ⟨nm, st, rq, A', n', c', af, A2', n2', c2'⟩⟩ := a
  rw [hW1] at x0 x1 x2 x3 x4 x5 x6 x7 x8 c1 c4 c5 c6 m0 m1
  have hHB := hb1
  rw [hW1] at hHB
  have hWW := hW1
  unfold avArr at x0 x1 x2 x3 x4 x5 x6 x7 x8 c1 c4 c5 c6 m0 m1 hHB hWW ⊢
  simp only at c1 c4 c5 c6 m0 m1 hHB hWW ⊢
  simp only [List.getElem?_toArray, List.getElem?_cons_zero, List.getElem?_cons_succ] at x0 x1 x2 x3 x4 x5 x6 x7 x8
  change Calls _ _ _ _ (RefPost w R r (doM s ⟨kind, name, ⟨fp, fk, fd⟩, ⟨nm, st, rq, af⟩⟩))
  change Calls _ _ _ _ (RefPost _ R r (doFile s name ⟨fp, fk, fd⟩)) at c4
  change Calls _ _ _ _ (RefPost _ R r (doStart s name ⟨nm, st, rq, af⟩)) at c6
  have HBB := Lib.hid hHB
  have HWW := Lib.hid hWW
  clear hG1 h h1 ha1 hB1 hRl1 ha hs hsep hRl hW1 hB hHB hg hl hz1 hb1 hWW
  by_cases k1 : kind = 1
  · subst k1
    rw [show doM s ⟨1, name, ⟨fp, fk, fd⟩, ⟨nm, st, rq, af⟩⟩ = doStop s name from rfl]
    clear c4 c5 c6
    go_enter Tryd.func16, Tryd.ntmps16
    go_wp2_with (go_at_call 31; refine c1.mono ?_; clear c1; rintro e w2 hp; obtain ⟨rfl, hp2⟩ := RefPost.later hp HBB.out hout hrw; have HP := Lib.hid hp2; clear hp hp2)
    go_ret
    exact ⟨rfl, HP.out⟩
  by_cases k2 : kind = 2
  · subst k2
    rw [show doM s ⟨2, name, ⟨fp, fk, fd⟩, ⟨nm, st, rq, af⟩⟩ = (⟨s.files.filter fun x => decide (x.path ≠ name), s.users, s.units, s.plan⟩, 0) from rfl]
    clear c1 c4 c5 c6
    obtain ⟨A, n, c, es, A2, n2, c2, users, A3, n3, c3, us⟩ := o
    simp only at hof hou hon m0 m1
    have hln : es.length = n := by exact HL.out.2.1
    have HLN := Lib.hid hln
    go_enter Tryd.func16, Tryd.ntmps16
    go_wp2_with (fail)
    rw [← HWW.out]
    clear x0 x1 x2 x3 x4 x5 x6 x7 x8 m0 m1 hln
    go_loopw [5, 6] (fun sl i wr => ∃ (k m : Nat) (A5 : Option Addr) (c5 : Nat), k ≤ n ∧ i = .int .i64 (k : Int) ∧ sl = .slice A5 m c5 ∧ m ≤ k ∧ Aside (wr.ownsRow W1.heap.size 44 3 (.slice A5 m c5) m (((es.take k).filter (keepE name)).flatMap evCells)) ∧ Aside (Below W1.heap.size W1 wr)) (fun _ i _ => n - (intOf i).toNat)
    case atStart => exact ⟨0, 0, none, 0, Nat.zero_le _, rfl, rfl, Nat.le_refl _, World.ownsRow_nil _ _ _ _, Below.refl _ _⟩
    case round =>
      obtain ⟨k, m, A5, c5, hk, rfl, rfl, hmk, ho, hb⟩ := hrel
      have HR := Lib.hid (H1.out.below hb.out)
      have hrl := HR.out.blk.lt
      have m0 : wr.cell? ⟨r, 0, none⟩ = some (.slice A n c) := HR.out.facts.1
      have hG := HG1.out.below hb.out HG1.out.lt
      have b1 : wr.cell? ⟨w.heap.size, 1, none⟩ = some (.string ⟨name.toArray⟩) := hG.cell 1
      have hgl := hG.lt
      clear hG
      by_cases hlt : k < n
      · obtain ⟨b, off, hA, hbB, hl, c0, c1, c2', hS⟩ := HR.out.obs.at_.files.at_ hlt
        simp only at hA hl c0 c1 c2'
        have HF := Lib.hid (filt_succ (keepE name) es hl)
        subst hA
        generalize es[k] = x at *
        have tx : (ByteArray.mk x.path.toArray).toList = x.path := Go.ByteArray.toList_eq _
        have ty : (ByteArray.mk name.toArray).toList = name := Go.ByteArray.toList_eq _
        cases hxe : (x.path == name) with
        | true =>
          have hkf := show keepE name x = false by unfold keepE; exact decide_eq_false (fun h9 => h9 (by simpa using hxe))
          rw [hkf] at HF
          simp only [Bool.false_eq_true, if_false] at HF
          have HO := Lib.hid (show wr.ownsRow W1.heap.size 44 3 (.slice A5 m c5) m (((es.take (k + 1)).filter (keepE name)).flatMap evCells) from by rw [HF.out, List.append_nil]; exact ho.out)
          clear hkf hbB c1 c2' hS
          go_wp2
          go_quiet (fail)
          go_wp2
          exact ⟨⟨k + 1, m, A5, c5, by omega, by go_num, rfl, by omega, own_drew HO.out _, bel_drewN hb.out _⟩, by simp [intOf]; omega⟩
        | false =>
          have hkt := show keepE name x = true by unfold keepE; exact decide_eq_true (fun h9 => by rw [h9] at hxe; simp at hxe)
          rw [hkt] at HF
          simp only [if_true] at HF
          clear hkt
          go_wp2
          go_quiet (fail)
          generalize hwx : wr.drewN _ = wx
          have hbx : Below wr.heap.size wr wx := by rw [← hwx]; exact dr_below _ _
          have hox : wx.ownsRow W1.heap.size 44 3 (.slice A5 m c5) m (((es.take k).filter (keepE name)).flatMap evCells) := by rw [← hwx]; exact own_drew ho.out _
          have m0x : wx.cell? ⟨r, 0, none⟩ = some (.slice (some ⟨b, off, none⟩) n c) := (hbx.cell (p := ⟨r, 0, none⟩) hrl).trans m0
          have d0 : wx.cell? ⟨b, off + k * 3, none⟩ = some (.string ⟨x.path.toArray⟩) := (hbx.cell (p := ⟨b, off + k * 3, none⟩) hbB).trans c0
          have d1 : wx.cell? ⟨b, off + k * 3 + 1, none⟩ = some (.int .i64 x.kind) := (hbx.cell (p := ⟨b, off + k * 3 + 1, none⟩) hbB).trans c1
          have d2 : wx.cell? ⟨b, off + k * 3 + 2, none⟩ = some (.slice x.A x.n x.c) := (hbx.cell (p := ⟨b, off + k * 3 + 2, none⟩) hbB).trans c2'
          have HBX := Lib.hid (hb.out.trans (hbx.mono hb.out.size))
          obtain ⟨A6, c6, w6, r6, o1, hb6⟩ := own_more rowT_ent hox HBX.out.size (xc := (evArr x)) rfl (fun u hu => evCells_one [x] u (by simpa [evArr, evCells] using hu)) (by omega)
          have HR1 := Lib.hid r6
          unfold evArr at HR1
          have HO := Lib.hid (show w6.ownsRow W1.heap.size 44 3 (.slice A6 (m + 1) c6) (m + 1) (((es.take (k + 1)).filter (keepE name)).flatMap evCells) from by rw [HF.out, List.flatMap_append]; simp only [List.flatMap_cons, List.flatMap_nil, List.append_nil]; exact o1)
          have HB6 := Lib.hid (hb6 HBX.out)
          clear hwx hbx hox r6 o1 hb6 hbB m0 b1 c1 c2' hS
          go_wp2_with (at_builtin; refine wpList_append_run rfl _ _ _ rfl rfl rfl HR1.out ?_; clear HR1)
          exact ⟨⟨k + 1, m + 1, A6, c6, by omega, by go_num, rfl, by omega, HO.out, HB6.out⟩, by simp [intOf]; omega⟩
      · obtain rfl : k = n := by omega
        have hfo : wr.ownsRow W1.heap.size 44 3 (.slice A5 m c5) m ((es.filter (keepE name)).flatMap evCells) := by
          have h9 := ho.out
          rwa [List.take_of_length_le (Nat.le_of_eq HLN.out)] at h9
        have HP := Lib.hid (files_kept H1.out HB.out hrw hb.out hfo)
        have nf0 := HR.out.facts.2.2.2.2 0
        clear hfo
        go_wp2
        go_ret
        exact HP.out
  by_cases k3 : kind = 3
  · subst k3
    rw [show doM s ⟨3, name, ⟨fp, fk, fd⟩, ⟨nm, st, rq, af⟩⟩ = (⟨s.files, s.users.filter fun x => decide (x ≠ name), s.units, s.plan⟩, 0) from rfl]
    clear c1 c4 c5 c6
    obtain ⟨A, n, c, es, A2, n2, c2, users, A3, n3, c3, us⟩ := o
    simp only at hof hou hon m0 m1
    have hln : users.length = n2 := by have h8 := congrArg List.length H1.out.users; have h9 := HL.out.2.2.1; simp only at h8 h9; omega
    have HLN := Lib.hid hln
    go_enter Tryd.func16, Tryd.ntmps16
    go_wp2_with (fail)
    rw [← HWW.out]
    clear x0 x1 x2 x3 x4 x5 x6 x7 x8 m0 m1 hln
    go_loopw [7, 8] (fun sl i wr => ∃ (k m : Nat) (A5 : Option Addr) (c5 : Nat), k ≤ n2 ∧ i = .int .i64 (k : Int) ∧ sl = .slice A5 m c5 ∧ m ≤ k ∧ Aside (wr.ownsRow W1.heap.size 9 1 (.slice A5 m c5) m (((users.take k).filter (keepT name)).map encStr)) ∧ Aside (Below W1.heap.size W1 wr)) (fun _ i _ => n2 - (intOf i).toNat)
    case atStart => exact ⟨0, 0, none, 0, Nat.zero_le _, rfl, rfl, Nat.le_refl _, World.ownsRow_nil _ _ _ _, Below.refl _ _⟩
    case round =>
      obtain ⟨k, m, A5, c5, hk, rfl, rfl, hmk, ho, hb⟩ := hrel
      have HR := Lib.hid (H1.out.below hb.out)
      have hrl := HR.out.blk.lt
      have m0 : wr.cell? ⟨r, 1, none⟩ = some (.slice A2 n2 c2) := HR.out.facts.2.1
      have hG := HG1.out.below hb.out HG1.out.lt
      have b1 : wr.cell? ⟨w.heap.size, 1, none⟩ = some (.string ⟨name.toArray⟩) := hG.cell 1
      have hgl := hG.lt
      clear hG
      by_cases hlt : k < n2
      · obtain ⟨b, off, hA, hbB, hl, c0⟩ := txtAt HR.out.obs.at_.users hlt
        simp only at hA hl c0
        have HF := Lib.hid (filt_succ (keepT name) users hl)
        subst hA
        generalize users[k] = x at *
        have tx : (ByteArray.mk x.toArray).toList = x := Go.ByteArray.toList_eq _
        have ty : (ByteArray.mk name.toArray).toList = name := Go.ByteArray.toList_eq _
        cases hxe : (x == name) with
        | true =>
          have hkf := show keepT name x = false by unfold keepT; exact decide_eq_false (fun h9 => h9 (by simpa using hxe))
          rw [hkf] at HF
          simp only [Bool.false_eq_true, if_false] at HF
          have HO := Lib.hid (show wr.ownsRow W1.heap.size 9 1 (.slice A5 m c5) m (((users.take (k + 1)).filter (keepT name)).map encStr) from by rw [HF.out, List.append_nil]; exact ho.out)
          clear hkf hbB 
          go_wp2
          go_quiet (fail)
          go_wp2
          exact ⟨⟨k + 1, m, A5, c5, by omega, by go_num, rfl, by omega, own_drew HO.out _, bel_drewN hb.out _⟩, by simp [intOf]; omega⟩
        | false =>
          have hkt := show keepT name x = true by unfold keepT; exact decide_eq_true (fun h9 => by rw [h9] at hxe; simp at hxe)
          rw [hkt] at HF
          simp only [if_true] at HF
          clear hkt
          go_wp2
          go_quiet (fail)
          generalize hwx : wr.drewN _ = wx
          have hbx : Below wr.heap.size wr wx := by rw [← hwx]; exact dr_below _ _
          have hox : wx.ownsRow W1.heap.size 9 1 (.slice A5 m c5) m (((users.take k).filter (keepT name)).map encStr) := by rw [← hwx]; exact own_drew ho.out _
          have m0x : wx.cell? ⟨r, 1, none⟩ = some (.slice (some ⟨b, off, none⟩) n2 c2) := (hbx.cell (p := ⟨r, 1, none⟩) hrl).trans m0
          have d0 : wx.cell? ⟨b, off + k, none⟩ = some (.string ⟨x.toArray⟩) := (hbx.cell (p := ⟨b, off + k, none⟩) hbB).trans c0
          have HBX := Lib.hid (hb.out.trans (hbx.mono hb.out.size))
          obtain ⟨A6, c6, w6, r6, o1, hb6⟩ := own_more rowT_txt hox HBX.out.size (xc := #[.string ⟨x.toArray⟩]) rfl (fun u hu => by rw [List.mem_singleton.1 hu]; rfl) (by omega)
          have HR1 := Lib.hid r6
          skip
          have HO := Lib.hid (show w6.ownsRow W1.heap.size 9 1 (.slice A6 (m + 1) c6) (m + 1) (((users.take (k + 1)).filter (keepT name)).map encStr) from by rw [HF.out, List.map_append]; exact o1)
          have HB6 := Lib.hid (hb6 HBX.out)
          clear hwx hbx hox r6 o1 hb6 hbB m0 b1 
          go_wp2_with (at_builtin; refine wpList_append_run rfl _ _ _ rfl rfl rfl HR1.out ?_; clear HR1)
          exact ⟨⟨k + 1, m + 1, A6, c6, by omega, by go_num, rfl, by omega, HO.out, HB6.out⟩, by simp [intOf]; omega⟩
      · obtain rfl : k = n2 := by omega
        have hfo : wr.ownsRow W1.heap.size 9 1 (.slice A5 m c5) m ((users.filter (keepT name)).map encStr) := by
          have h9 := ho.out
          rwa [List.take_of_length_le (Nat.le_of_eq HLN.out)] at h9
        have HP := Lib.hid (users_kept H1.out HB.out hrw hb.out hfo)
        have nf0 := HR.out.facts.2.2.2.2 1
        clear hfo
        go_wp2
        go_ret
        exact HP.out
  by_cases k4 : kind = 4
  · subst k4
    rw [show doM s ⟨4, name, ⟨fp, fk, fd⟩, ⟨nm, st, rq, af⟩⟩ = doFile s name ⟨fp, fk, fd⟩ from rfl]
    clear c1 c5 c6
    go_enter Tryd.func16, Tryd.ntmps16
    go_wp2_with (go_at_call 32; refine c4.mono ?_; clear c4; rintro e w2 hp; obtain ⟨rfl, hp2⟩ := RefPost.later hp HBB.out hout hrw; have HP := Lib.hid hp2; clear hp hp2)
    go_ret
    exact ⟨rfl, HP.out⟩
  by_cases k5 : kind = 5
  · subst k5
    rw [show doM s ⟨5, name, ⟨fp, fk, fd⟩, ⟨nm, st, rq, af⟩⟩ = doUser s name from rfl]
    clear c1 c4 c6
    go_enter Tryd.func16, Tryd.ntmps16
    go_wp2_with (go_at_call 33; refine c5.mono ?_; clear c5; rintro e w2 hp; obtain ⟨rfl, hp2⟩ := RefPost.later hp HBB.out hout hrw; have HP := Lib.hid hp2; clear hp hp2)
    go_ret
    exact ⟨rfl, HP.out⟩
  by_cases k6 : kind = 6
  · subst k6
    rw [show doM s ⟨6, name, ⟨fp, fk, fd⟩, ⟨nm, st, rq, af⟩⟩ = doStart s name ⟨nm, st, rq, af⟩ from rfl]
    clear c1 c4 c5
    go_enter Tryd.func16, Tryd.ntmps16
    go_wp2_with (go_at_call 34; refine c6.mono ?_; clear c6; rintro e w2 hp; obtain ⟨rfl, hp2⟩ := RefPost.later hp HBB.out hout hrw; have HP := Lib.hid hp2; clear hp hp2)
    go_ret
    exact ⟨rfl, HP.out⟩
  have HX := Lib.hid (show doM s ⟨kind, name, ⟨fp, fk, fd⟩, ⟨nm, st, rq, af⟩⟩ = (s, 70) by unfold doM; rw [if_neg k1, if_neg k2, if_neg k3, if_neg k4, if_neg k5, if_neg k6])
  have e1 : (kind == 1) = false := by rw [beq_eq_false_iff_ne]; exact k1
  have e2 : (kind == 2) = false := by rw [beq_eq_false_iff_ne]; exact k2
  have e3 : (kind == 3) = false := by rw [beq_eq_false_iff_ne]; exact k3
  have e4 : (kind == 4) = false := by rw [beq_eq_false_iff_ne]; exact k4
  have e5 : (kind == 5) = false := by rw [beq_eq_false_iff_ne]; exact k5
  have e6 : (kind == 6) = false := by rw [beq_eq_false_iff_ne]; exact k6
  clear c1 c4 c5 c6 k1 k2 k3 k4 k5 k6
  go_enter Tryd.func16, Tryd.ntmps16
  go_wp2_with (fail)
  go_ret
  rw [HX.out]
  exact fin.out _ HBB.out
end
end Go.Proofs.YtibndaianhlcaaaDoor
namespace Go.Proofs.YtibndaianhlcaaaDoor
open Go.RowKit Go.Sort Go.Shelf
set_option linter.unusedVariables false
set_option linter.unusedSimpArgs false

theorem MRun.start {w w1 w2 : World} (hb1 : Below w.heap.size w w1) (hm : MachAt w2 (fun k => k = w1.heap.size) w1.heap.size newM) (hb2 : Below w1.heap.size w1 w2) : MRun w w2.heap.size w2 (fun k => k = w1.heap.size) w1.heap.size newM := by
  have h9 := hm
  obtain ⟨fA, fn, fc, es, uA, un, uc, nA, nn, nc, us, pA, pn, pc, hv⟩ := h9
  have hlt : w1.heap.size < w2.heap.size := hv.blk.lt
  have hs1 := hb1.size
  exact ⟨hm, good_new, small_new, fun k hk => .inl hk, fun k hk => by omega, hb1.trans (hb2.mono hs1), hs1, by omega, Nat.le_refl _⟩
theorem MRun.plan_ {w W : World} {B : Nat} {F : Nat → Prop} {g : Nat} {s : Mach} (h : MRun w B W F g s) {C : Nat} {A : Option Addr} {n c : Nat} {p : List Bool} (hp : Slc W C 1 A n c (p.map bl)) (hC : C ≤ W.heap.size) (hn : n ≤ 1000000000) :
    Calls Tryd.prog 8 #[.pointer (some ⟨g, 2, none⟩), .slice A n c] W fun e w' => e = .returned (.tuple #[]) ∧ ∃ G, MRun w B w' G g ⟨s.files, s.users, s.units, p⟩ ∧ G = Fn F W w' ∧ Step W w' F G := by
  refine (plan_any h.mach hp hC hn).mono ?_
  rintro e w' ⟨rfl, hm, hst⟩
  exact ⟨rfl, _, h.planned hm hst, rfl, hst⟩
/-- Behind an observation that is kept in a variable. -/
structure Seen20 (w W : World) (B : Nat) (F : Nat → Prop) (g : Nat) (s : Mach) (G : Nat → Prop) (v : Nat) (o : OV) : Prop where
  run : MRun w B W F g s
  obs : ObsK W G o
  var : KeepB W F v 38 (ovArr o)
  out : ∀ k, G k → ¬ F k
  glt : ∀ k, G k → k < W.heap.size
theorem Seen20.new {w W W4 : World} {B : Nat} {F : Nat → Prop} {g : Nat} {s : Mach} (h : MRun w B W F g s) {A : Option Addr} {n c : Nat} {es : List EV} {A2 : Option Addr} {n2 c2 : Nat} {A3 : Option Addr} {n3 c3 : Nat} {us : List SV} (ho : ObsOut W W4 s A n c es A2 n2 c2 A3 n3 c3 us) :
    Seen20 w (W4.alloc (.cells (ovArr ⟨A, n, c, es, A2, n2, c2, s.users, A3, n3, c3, us⟩) 38)) B F g s (fun k => W.heap.size ≤ k ∧ k < W4.heap.size) W4.heap.size ⟨A, n, c, es, A2, n2, c2, s.users, A3, n3, c3, us⟩ := by
  have h4 := h.below ho.bel
  exact ⟨h4.below (bel_new _ _), ho.kept.below (bel_new _ _), KeepB.new h4.lt _ _, fun k hk hF => by have := h.lt k hF; omega, fun k hk => by simp; omega⟩
theorem Seen20.below {w W W' : World} {B : Nat} {F : Nat → Prop} {g : Nat} {s : Mach} {G : Nat → Prop} {v : Nat} {o : OV} (h : Seen20 w W B F g s G v o) (hb : Below W.heap.size W W') : Seen20 w W' B F g s G v o :=
  ⟨h.run.below hb, h.obs.below hb, h.var.below hb, h.out, fun k hk => Nat.lt_of_lt_of_le (h.glt k hk) hb.size⟩
theorem Seen20.did {w W W' : World} {B : Nat} {F : Nat → Prop} {g : Nat} {s : Mach} {G : Nat → Prop} {v : Nat} {o : OV} (h : Seen20 w W B F g s G v o) {a : ActP} (ha : SmallP a) {e : Ending} (hp : MachPost W F g (doM s a) e W') :
    e = .returned (.int .i64 (doM s a).2) ∧ Seen20 w W' B (Fn F W W') g (doM s a).1 G v o := by
  obtain ⟨h1, h2, h3⟩ := h.run.did ha hp
  exact ⟨h1, h2, h.obs.step h3 h.out, h.var.step h3, fun k hk hF => by rcases hF with hF | hF; exact h.out k hk hF; have := h.glt k hk; omega, fun k hk => Nat.lt_of_lt_of_le (h.glt k hk) h3.size⟩
theorem Seen20.load {w W : World} {B : Nat} {F : Nat → Prop} {g : Nat} {s : Mach} {G : Nat → Prop} {v : Nat} {o : OV} (h : Seen20 w W B F g s G v o) : (LoadS 38 (.pointer (some ⟨v, 0, none⟩))).run Tryd.prog W = .ok (.agg (ovArr o)) W := load_obs h.var.blk rfl
/-- A step copied, and asked of the machine. -/
theorem copied_step {w W : World} {B : Nat} {F : Nat → Prop} {g : Nat} {s : Mach} (h : MRun w B W F g s) {a : AV} (ha : ActAt w w.heap.size a) (hs : SmallA a) :
    Calls Tryd.prog 11 #[.agg (avArr a)] W fun e w' => ∃ a', e = .returned (.agg (avArr a')) ∧ Below W.heap.size W w' ∧ Calls Tryd.prog 10 #[.pointer (some ⟨g, 0, none⟩), .agg (avArr a')] w' (MachPost w' F g (doM s a.act)) := by
  refine (copied20_any (ha.below h.bel) h.bel.size hs.lens).mono ?_
  rintro e w' ⟨a', rfl, he, ho, hl, hb⟩
  refine ⟨a', rfl, hb, ?_⟩
  have := (h.below hb).do_ ho.at_ (Nat.le_refl _) (hs.same he hl) (ho.apart (fun k hk hF => by have := h.lt k hF; omega))
  rwa [he] at this
section
attribute [local go_sem ↓] load_act_mark load_obs_mark
set_option maxRecDepth 100000 in
set_option maxHeartbeats 8000000 in
theorem again20_any {w : World} {A : Option Addr} {n c : Nat} {p : List Bool} (hp : Slc w w.heap.size 1 A n c (p.map bl)) (hn : n ≤ 1000000000) {A' : Option Addr} {n' c' : Nat} {acts : List AV} (hl : ActsAt w w.heap.size A' n' c' acts) (hs : ∀ a ∈ acts, SmallA a) (hn' : n' ≤ 1000000000) :
    Calls Tryd.prog 3 #[.slice A n c, .slice A' n' c'] w fun e w' => e = .returned (.bool true) ∧ Below w.heap.size w w' := by
  have hsh := shown20_any w
  have HP := Lib.hid hp
  have HL := Lib.hid hl
  have HS := Lib.hid hs
  clear hp hl hs
  go_enter Tryd.func3, Tryd.ntmps3
  go_wp2_with (first
    | (go_at_call 6; refine hsh.mono ?_; clear hsh; rintro e w1 ⟨rfl, hb1⟩; have hnew := new_any w1; have HB1 := Lib.hid hb1; clear hb1)
    | (go_at_call 7; refine hnew.mono ?_; clear hnew; rintro e w2 ⟨rfl, hm, hb⟩; have hR := MRun.start HB1.out hm hb; have hpl := hR.plan_ (HP.out.below hR.bel) hR.bel.size hn; clear hm hb)
    | (go_at_call 8; refine hpl.mono ?_; clear hpl hR; rintro e w3 ⟨rfl, G, hR, -, -⟩; have HR := Lib.hid hR; clear hR))
  generalize w2.heap.size = B at *
  generalize w1.heap.size = g at *
  go_loopw [7] (fun i wr => ∃ k : Nat, k ≤ n' ∧ k ≤ 100 ∧ i = .int .i64 (k : Int) ∧ Aside (∃ F s, MRun w B wr F g s)) (fun i _ => n' - (intOf i).toNat)
  case atStart => exact ⟨0, Nat.zero_le _, Nat.zero_le _, rfl, _, _, HR.out⟩
  case round =>
    obtain ⟨k, hk, hk100, rfl, hrr⟩ := hrel
    obtain ⟨F, s, hR⟩ := hrr.out
    have HRR := Lib.hid hR
    clear hR hrr
    by_cases hlt : k < n'
    · by_cases hlt2 : k < 100
      · obtain ⟨b, off, rfl, hkl, -, -⟩ := HL.out.at_ hlt
        have HAK := Lib.hid (HL.out.acts _ (List.getElem_mem hkl))
        have HSK := Lib.hid (HS.out _ (List.getElem_mem hkl))
        have HLD : Hid (∀ W, Below w.heap.size w W → (LoadS 48 (.pointer (some ⟨b, off + k * 9, none⟩))).run Tryd.prog W = .ok (.agg (avArr acts[k])) W) := fun W hb => by obtain ⟨b', off', e9, hkl', h9, -⟩ := (HL.out.below hb).at_ hlt; cases e9; exact h9
        have hlt3 : (k : Int) < 100 := by omega
        generalize acts[k] = a at *
        have HSP := Lib.hid (HAK.out.small HSK.out)
        have hse1 := HRR.out.seen
        have HAG := Lib.hid (fun h => doM_again HRR.out.good a.act h)
        have HFA := Lib.hid (doM_fail s a.act)
        rcases (show (doM s a.act).2 = 0 ∨ (doM s a.act).2 = 70 ∨ (doM s a.act).2 = 71 by by_cases h : (doM s a.act).2 = 0; exact .inl h; exact .inr (HFA.out h).2.2.2) with hz | hz | hz
        · have HZ := Lib.hid hz
          have HZ2 := Lib.hid (HAG.out hz)
          clear hz
          go_wp2_with (first
          | (go_at_call 9; refine hse1.mono ?_; clear hse1; rintro e w4 ⟨A, n, c, es, A2, n2, c2, A3, n3, c3, us, rfl, ho⟩; have h5 := Seen20.new HRR.out ho; have HO1 := Lib.hid ho; have hld := HLD.out _ h5.run.bel; have hcp := copied_step h5.run HAK.out HSK.out; unfold ovArr at hld hcp; have H5 := Lib.hid h5; clear ho h5)
          | (go_at_call 11; refine hcp.mono ?_; clear hcp hld; rintro e w6 ⟨a', rfl, hb6, hd1⟩; have H6 := Lib.hid (H5.out.below hb6); clear hb6)
          | (go_at_call 10; refine hd1.mono ?_; clear hd1; intro e w7 hq; obtain ⟨rfl, h7⟩ := H6.out.did HSP.out hq; rw [HZ.out]; have hse2 := h7.run.seen; have H7 := Lib.hid h7; clear hq h7)
          | (go_at_call 9; refine hse2.mono ?_; clear hse2; rintro e w8 ⟨B1, m, d, fs, B2, m2, d2, B3, m3, d3, vs, rfl, ho2⟩; have h9 := Seen20.new H7.out.run ho2; have HO2 := Lib.hid ho2; have h9b := (H7.out.below ho2.bel).below (bel_new _ (.cells (ovArr ⟨B1, m, d, fs, B2, m2, d2, (doM s a.act).1.users, B3, m3, d3, vs⟩) 38)); have hl1 := h9b.load; have hl2 := h9.load; have hld2 := HLD.out _ h9.run.bel; have hcp2 := copied_step h9.run HAK.out HSK.out; unfold ovArr at hl1 hl2 hld2 hcp2; have H9 := Lib.hid h9; have H9b := Lib.hid h9b; clear ho2 h9 h9b)
          | (go_at_call 11; refine hcp2.mono ?_; clear hcp2 hld2; rintro e w11 ⟨a2, rfl, hb11, hd2⟩; have H11 := Lib.hid (H9.out.below hb11); clear hb11)
          | (go_at_call 10; refine hd2.mono ?_; clear hd2 hl1 hl2; intro e w12 hq; obtain ⟨rfl, h12⟩ := H11.out.did HSP.out hq; rw [HZ2.out.1]; have h12d := h12.below (Below.refl _ w12).drew; have hl3 := h12d.load; have hse3 := h12d.run.seen; unfold ovArr at hl3; have H12 := Lib.hid h12d; clear hq h12 h12d))
          go_region_law (first
          | (go_simp; go_at_call 9; refine hse3.mono ?_; clear hse3; rintro e w13 ⟨C1, q, t, gs, C2, q2, t2, C3, q3, t3, xs, rfl, ho3⟩; have h13 := H12.out.below ho3.bel; have hl4 := h13.load; have hsm := same20_any h13.obs.at_ ho3.kept.at_ (Nat.le_refl _); rw [sameO_of (HO2.out.ents.trans (HZ2.out.2.1.symm.trans ho3.ents.symm)) HZ2.out.2.2.1.symm (HO2.out.srvs.trans (HZ2.out.2.2.2.symm.trans ho3.srvs.symm))] at hsm; unfold ovArr at hsm hl4; have H13 := Lib.hid h13; clear ho3 h13)
          | (go_simp; go_at_call 12; refine hsm.mono ?_; clear hsm; rintro e w14 ⟨rfl, hb14⟩; have H14 := Lib.hid (H13.out.run.below hb14); clear hb14))
          all_goals go_wp2_with (fail)
          all_goals exact ⟨⟨k + 1, by omega, by omega, by go_num, _, _, H14.out⟩, by simp [intOf]; omega⟩
        · have HZ := Lib.hid hz
          clear hz
          go_wp2_with (first
          | (go_at_call 9; refine hse1.mono ?_; clear hse1; rintro e w4 ⟨A, n, c, es, A2, n2, c2, A3, n3, c3, us, rfl, ho⟩; have h5 := Seen20.new HRR.out ho; have HO1 := Lib.hid ho; have hld := HLD.out _ h5.run.bel; have hcp := copied_step h5.run HAK.out HSK.out; unfold ovArr at hld hcp; have H5 := Lib.hid h5; clear ho h5)
          | (go_at_call 11; refine hcp.mono ?_; clear hcp hld; rintro e w6 ⟨a', rfl, hb6, hd1⟩; have H6 := Lib.hid (H5.out.below hb6); clear hb6)
          | (go_at_call 10; refine hd1.mono ?_; clear hd1; intro e w7 hq; obtain ⟨rfl, h7⟩ := H6.out.did HSP.out hq; rw [HZ.out]; have hse2 := h7.run.seen; have H7 := Lib.hid h7; clear hq h7)
          | (go_at_call 9; refine hse2.mono ?_; clear hse2; rintro e w8 ⟨B1, m, d, fs, B2, m2, d2, B3, m3, d3, vs, rfl, ho2⟩; have h9 := Seen20.new H7.out.run ho2; have HO2 := Lib.hid ho2; have h9b := (H7.out.below ho2.bel).below (bel_new _ (.cells (ovArr ⟨B1, m, d, fs, B2, m2, d2, (doM s a.act).1.users, B3, m3, d3, vs⟩) 38)); have hl1 := h9b.load; have hl2 := h9.load; have hsm := same20_any h9b.obs.at_ h9.obs.at_ (Nat.le_refl _); rw [sameO_of (HO1.out.ents.trans ((HFA.out (by rw [HZ.out]; decide)).1.symm.trans ho2.ents.symm)) (HFA.out (by rw [HZ.out]; decide)).2.1.symm (HO1.out.srvs.trans ((HFA.out (by rw [HZ.out]; decide)).2.2.1.symm.trans ho2.srvs.symm))] at hsm; unfold ovArr at hl1 hl2 hsm; have H9 := Lib.hid h9; have H9b := Lib.hid h9b; clear ho2 h9 h9b)
          | (go_at_call 12; refine hsm.mono ?_; clear hsm; rintro e w10 ⟨rfl, hb10⟩; have H10 := Lib.hid (H9.out.run.below hb10); clear hb10))
          exact ⟨⟨k + 1, by omega, by omega, by go_num, _, _, H10.out⟩, by simp [intOf]; omega⟩
        · have HZ := Lib.hid hz
          clear hz
          go_wp2_with (first
          | (go_at_call 9; refine hse1.mono ?_; clear hse1; rintro e w4 ⟨A, n, c, es, A2, n2, c2, A3, n3, c3, us, rfl, ho⟩; have h5 := Seen20.new HRR.out ho; have HO1 := Lib.hid ho; have hld := HLD.out _ h5.run.bel; have hcp := copied_step h5.run HAK.out HSK.out; unfold ovArr at hld hcp; have H5 := Lib.hid h5; clear ho h5)
          | (go_at_call 11; refine hcp.mono ?_; clear hcp hld; rintro e w6 ⟨a', rfl, hb6, hd1⟩; have H6 := Lib.hid (H5.out.below hb6); clear hb6)
          | (go_at_call 10; refine hd1.mono ?_; clear hd1; intro e w7 hq; obtain ⟨rfl, h7⟩ := H6.out.did HSP.out hq; rw [HZ.out]; have hse2 := h7.run.seen; have H7 := Lib.hid h7; clear hq h7)
          | (go_at_call 9; refine hse2.mono ?_; clear hse2; rintro e w8 ⟨B1, m, d, fs, B2, m2, d2, B3, m3, d3, vs, rfl, ho2⟩; have h9 := Seen20.new H7.out.run ho2; have HO2 := Lib.hid ho2; have h9b := (H7.out.below ho2.bel).below (bel_new _ (.cells (ovArr ⟨B1, m, d, fs, B2, m2, d2, (doM s a.act).1.users, B3, m3, d3, vs⟩) 38)); have hl1 := h9b.load; have hl2 := h9.load; have hsm := same20_any h9b.obs.at_ h9.obs.at_ (Nat.le_refl _); rw [sameO_of (HO1.out.ents.trans ((HFA.out (by rw [HZ.out]; decide)).1.symm.trans ho2.ents.symm)) (HFA.out (by rw [HZ.out]; decide)).2.1.symm (HO1.out.srvs.trans ((HFA.out (by rw [HZ.out]; decide)).2.2.1.symm.trans ho2.srvs.symm))] at hsm; unfold ovArr at hl1 hl2 hsm; have H9 := Lib.hid h9; have H9b := Lib.hid h9b; clear ho2 h9 h9b)
          | (go_at_call 12; refine hsm.mono ?_; clear hsm; rintro e w10 ⟨rfl, hb10⟩; have H10 := Lib.hid (H9.out.run.below hb10); clear hb10))
          exact ⟨⟨k + 1, by omega, by omega, by go_num, _, _, H10.out⟩, by simp [intOf]; omega⟩
      · obtain rfl : k = 100 := by omega
        have hlt4 : ((100 : Nat) : Int) < (n' : Int) := by omega
        go_wp2_with (fail)
        go_ret
        exact ⟨rfl, HRR.out.bel⟩
    · obtain rfl : k = n' := by omega
      go_wp2_with (fail)
      go_ret
      exact ⟨rfl, HRR.out.bel⟩
end
end Go.Proofs.YtibndaianhlcaaaDoor
namespace Go.Proofs.YtibndaianhlcaaaDoor
open Go.RowKit Go.Sort Go.Shelf
set_option linter.unusedVariables false
set_option linter.unusedSimpArgs false

/-- A row that may be written over. -/
def WrB (w : World) (G : Nat → Prop) (t : TypeId) (sz : Nat) (A : Option Addr) (n : Nat) : Prop := n = 0 ∨ ∃ g cur, A = some ⟨g, 0, none⟩ ∧ Blk w g t cur ∧ n * sz ≤ cur.size ∧ G g
theorem WrB.set {w : World} {G : Nat → Prop} {t : TypeId} {sz : Nat} {A : Option Addr} {n : Nat} (h : WrB w G t sz A n) (q i : Nat) (v : Value) : WrB (w.setCell ⟨q, i, none⟩ v) G t sz A n := by
  rcases h with h | ⟨g, cur, h1, h2, h3, h4⟩
  · exact .inl h
  · by_cases e : g = q
    · subst e
      exact .inr ⟨g, _, h1, h2.set_ i v, by simpa using h3, h4⟩
    · exact .inr ⟨g, cur, h1, h2.far (by simpa using e) v, h3, h4⟩
theorem WrB.below {w w' : World} {G : Nat → Prop} {t : TypeId} {sz : Nat} {A : Option Addr} {n : Nat} (h : WrB w G t sz A n) (hb : Below w.heap.size w w') : WrB w' G t sz A n := by
  rcases h with h | ⟨g, cur, h1, h2, h3, h4⟩
  · exact .inl h
  · exact .inr ⟨g, cur, h1, h2.below hb h2.lt, h3, h4⟩
theorem WrB.of_row {w : World} {F G : Nat → Prop} {t : TypeId} {sz : Nat} {A : Option Addr} {n m c : Nat} {xs : List Value} (h : Row w F t sz (.slice A m c) n xs) (hG : ∀ k, F k → G k) : WrB w G t sz A n := by
  rcases h.own.2 with ⟨_, h0⟩ | ⟨g, cap, cur, e, _, h2, h3, h4, h5, _⟩
  · exact .inl h0
  · injection e with e
    exact .inr ⟨g, cur, e, h2, by rw [h5]; exact Nat.mul_le_mul_right _ h3, hG _ (h.foot g (by rw [e]; rfl))⟩
/-- From w to w' cells of rows of G of a type T have been written over, and variables made. -/
structure Sp (w w' : World) (G : Nat → Prop) (T : TypeId → Prop) : Prop where
  step : Step w w' G G
  wr : ∀ {t : TypeId} {sz : Nat} {A : Option Addr} {n : Nat}, WrB w G t sz A n → WrB w' G t sz A n
  keep : ∀ (k : Nat) (cur : Array Value) (t : TypeId) (fr : Nat × Nat), w.heap[k]? = some (.cells cur t fr) → ¬ T t → w'.heap[k]? = w.heap[k]?
theorem lt_of_heap {w : World} {k : Nat} {o : Obj} (h : w.heap[k]? = some o) : k < w.heap.size := (Array.getElem?_eq_some_iff.1 h).1
theorem Sp.of_below {w w' : World} {G : Nat → Prop} {T : TypeId → Prop} (hb : Below w.heap.size w w') : Sp w w' G T := ⟨Step.of_below hb G, fun h => h.below hb, fun k cur t fr h _ => hb.block k (lt_of_heap h)⟩
theorem Sp.trans {a b c : World} {G : Nat → Prop} {T U : TypeId → Prop} (h : Sp a b G T) (k : Sp b c G U) (hTU : ∀ t, T t → U t) : Sp a c G U :=
  ⟨h.step.trans k.step, fun x => k.wr (h.wr x), fun q cur t fr hq hT => by
    have h1 := h.keep q cur t fr hq (fun x => hT (hTU t x))
    rw [k.keep q cur t fr (h1.trans hq) hT, h1]⟩
theorem Sp.more {a b : World} {G : Nat → Prop} {T U : TypeId → Prop} (h : Sp a b G T) (hTU : ∀ t, T t → U t) : Sp a b G U := ⟨h.step, h.wr, fun q cur t fr hq hT => h.keep q cur t fr hq (fun x => hT (hTU t x))⟩
theorem Sp.set {a b : World} {G : Nat → Prop} {T : TypeId → Prop} (h : Sp a b G T) {g : Nat} {t : TypeId} {cur : Array Value} (hB : Blk b g t cur) (hG : G g) (hT : T t) (i : Nat) (v : Value) : Sp a (b.setCell ⟨g, i, none⟩ v) G T :=
  ⟨h.step.setCell (p := ⟨g, i, none⟩) (.inl hG) v, fun x => (h.wr x).set g i v, fun q c u fr hq hu => by
    have h1 := h.keep q c u fr hq hu
    rw [Below.heap_setCell b _ _ q (fun e => ?_), h1]
    simp only at e
    subst e
    unfold Blk at hB
    rw [h1, hq] at hB
    injection hB with hB
    injection hB with _ hB
    exact hu (hB ▸ hT)⟩
theorem Sp.blk {a b : World} {G : Nat → Prop} {T : TypeId → Prop} (h : Sp a b G T) {g : Nat} {t : TypeId} {cur : Array Value} (hB : Blk a g t cur) (hT : ¬ T t) : Blk b g t cur := (h.keep g cur t (0, 0) hB hT).trans hB
theorem WrB.at_ {w : World} {G : Nat → Prop} {t : TypeId} {A : Option Addr} {n : Nat} (h : WrB w G t 1 A n) {k : Nat} (hk : k < n) : ∃ g cur, A = some ⟨g, 0, none⟩ ∧ Blk w g t cur ∧ G g ∧ (∃ u, w.cell? ⟨g, k, none⟩ = some u) ∧ w.frozen? ⟨g, k, none⟩ = false := by
  rcases h with h | ⟨g, cur, h1, h2, h3, h4⟩
  · omega
  · exact ⟨g, cur, h1, h2, h4, ⟨_, by rw [h2.cell, Array.getElem?_eq_getElem (by omega)]⟩, h2.frozen k⟩
def TSp (t : TypeId) : Prop := t = 5 ∨ t = 9
structure SpoilOk (w : World) (G : Nat → Prop) (a : AV) : Prop where
  data : WrB w G 5 1 a.file.A a.file.n
  req : WrB w G 9 1 a.unit.A a.unit.n
  aft : WrB w G 9 1 a.unit.A2 a.unit.n2
  lens : ActLens a
  caps : a.file.c ≤ maxLen ∧ a.unit.c ≤ maxLen ∧ a.unit.c2 ≤ maxLen
set_option maxRecDepth 100000 in
set_option maxHeartbeats 4000000 in
theorem spoil20_any {w : World} {G : Nat → Prop} {a : AV} (h : SpoilOk w G a) : Calls Tryd.prog 15 #[.agg (avArr a)] w fun e w' => e = .returned (.tuple #[]) ∧ Sp w w' G TSp := by
  obtain ⟨W1, hW1⟩ : ∃ W1, W1 = w.alloc (.cells (avArr a) 48) := ⟨_, rfl⟩
  have hb1 : Below w.heap.size w W1 := by rw [hW1]; exact bel_new _ _
  have hG1 : Blk W1 w.heap.size 48 (avArr a) := by rw [hW1]; exact Blk.new _ _ _
  have hS1 : Sp w W1 G TSp := Sp.of_below hb1
  have d1 := h.data.below hb1
  have d2 := h.req.below hb1
  have d3 := h.aft.below hb1
  have hlens := h.lens
  have x4 := hG1.cell 4
  have x7 := hG1.cell 7
  have x8 := hG1.cell 8
  have hTB : ¬ TSp 48 := by intro h; rcases h with h | h <;> exact absurd h (by decide)
  have HB : Hid (∀ {wr : World}, Sp W1 wr G TSp → wr.cell? ⟨w.heap.size, 4, none⟩ = some (.slice a.file.A a.file.n a.file.c) ∧ wr.cell? ⟨w.heap.size, 7, none⟩ = some (.slice a.unit.A a.unit.n a.unit.c) ∧ wr.cell? ⟨w.heap.size, 8, none⟩ = some (.slice a.unit.A2 a.unit.n2 a.unit.c2)) := fun hs => ⟨(hs.blk hG1 hTB).cell 4, (hs.blk hG1 hTB).cell 7, (hs.blk hG1 hTB).cell 8⟩
  have HD1 := Lib.hid d1
  have HD2 := Lib.hid d2
  have HD3 := Lib.hid d3
  have HS1 := Lib.hid hS1
  obtain ⟨kind, name, ⟨fp, fk, fd, fA, fn, fc⟩, ⟨nm, st, rq, A', n', c', af, A2', n2', c2'⟩⟩ := a
  obtain ⟨l1, l2, l3⟩ := hlens
  simp only at l1 l2 l3
  rw [hW1] at x4 x7 x8
  have hWW := hW1
  unfold avArr at x4 x7 x8 hWW ⊢
  simp only [List.getElem?_toArray, List.getElem?_cons_zero, List.getElem?_cons_succ] at x4 x7 x8
  simp only at hWW x4 x7 x8 ⊢
  have HWW := Lib.hid hWW
  clear h hb1 hG1 hS1 d1 d2 d3 hW1 hWW hTB
  go_enter Tryd.func15, Tryd.ntmps15
  go_wp2_with (fail)
  rw [← HWW.out]
  clear x4 x7 x8
  go_loopw [2] (fun i wr => ∃ k : Nat, k ≤ fn ∧ i = .int .i64 (k : Int) ∧ Aside (Sp W1 wr G TSp)) (fun i _ => fn - (intOf i).toNat)
  case atStart => exact ⟨0, Nat.zero_le _, rfl, Sp.of_below (Below.refl _ _)⟩
  case round =>
    obtain ⟨k, hk, rfl, hs⟩ := hrel
    obtain ⟨y4, y7, y8⟩ := HB.out hs.out
    try simp only at y4 y7 y8
    by_cases hlt : k < fn
    · obtain ⟨g, cur, hA, hBk, hGg, ⟨u0, q1⟩, q2⟩ := (hs.out.wr HD1.out).at_ hlt
      try simp only at hA
      subst hA
      have HN := Lib.hid (hs.out.set hBk hGg (.inl rfl) k (.int .u8 1))
      clear hBk hGg
      go_wp2_with (fail)
      exact ⟨⟨k + 1, by omega, by go_num, HN.out⟩, by simp [intOf]; omega⟩
    · obtain rfl : k = fn := by omega
      go_wp2_with (fail)
      clear y4 y7 y8
      go_loopw [3] (fun i wr => ∃ k : Nat, k ≤ n' ∧ i = .int .i64 (k : Int) ∧ Aside (Sp W1 wr G TSp)) (fun i _ => n' - (intOf i).toNat)
      case atStart => exact ⟨0, Nat.zero_le _, rfl, hs.out⟩
      case round =>
        obtain ⟨k, hk, rfl, hs⟩ := hrel
        obtain ⟨y4, y7, y8⟩ := HB.out hs.out
        try simp only at y4 y7 y8
        by_cases hlt : k < n'
        · obtain ⟨g, cur, hA, hBk, hGg, ⟨u0, q1⟩, q2⟩ := (hs.out.wr HD2.out).at_ hlt
          try simp only at hA
          subst hA
          have HN := Lib.hid (hs.out.set hBk hGg (.inr rfl) k (.string ⟨#[63]⟩))
          clear hBk hGg
          go_wp2_with (fail)
          exact ⟨⟨k + 1, by omega, by go_num, HN.out⟩, by simp [intOf]; omega⟩
        · obtain rfl : k = n' := by omega
          go_wp2_with (fail)
          clear y4 y7 y8
          go_loopw [4] (fun i wr => ∃ k : Nat, k ≤ n2' ∧ i = .int .i64 (k : Int) ∧ Aside (Sp W1 wr G TSp)) (fun i _ => n2' - (intOf i).toNat)
          case atStart => exact ⟨0, Nat.zero_le _, rfl, hs.out⟩
          case round =>
            obtain ⟨k, hk, rfl, hs⟩ := hrel
            obtain ⟨y4, y7, y8⟩ := HB.out hs.out
            try simp only at y4 y7 y8
            by_cases hlt : k < n2'
            · obtain ⟨g, cur, hA, hBk, hGg, ⟨u0, q1⟩, q2⟩ := (hs.out.wr HD3.out).at_ hlt
              try simp only at hA
              subst hA
              have HN := Lib.hid (hs.out.set hBk hGg (.inr rfl) k (.string ⟨#[63]⟩))
              clear hBk hGg
              go_wp2_with (fail)
              exact ⟨⟨k + 1, by omega, by go_num, HN.out⟩, by simp [intOf]; omega⟩
            · obtain rfl : k = n2' := by omega
              go_wp2_with (fail)
              go_end0
              exact ⟨rfl, HS1.out.trans hs.out (fun _ h => h)⟩
end Go.Proofs.YtibndaianhlcaaaDoor
