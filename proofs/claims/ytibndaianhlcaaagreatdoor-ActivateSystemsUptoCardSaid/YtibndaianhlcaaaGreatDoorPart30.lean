/- The reference of layer 20: Do. -/
import Derived.Test.YtibndaianhlcaaaGreatDoorPart28
import Derived.Test.YtibndaianhlcaaaGreatDoorPart29
namespace Go.Proofs.YtibndaianhlcaaaGreatDoor
open Go.RowKit Go.Sort Go.Shelf
set_option linter.unusedVariables false
set_option linter.unusedSimpArgs false

section
variable {w w' : World} {R : Nat → Prop} {r : Nat} {s : Mach} {o : OV} {pA : Option Addr} {pn pc : Nat}
theorem RefPost.later {W : World} {res : Mach × Int} {e : Ending} (h : RefPost W R r res e w') (hb : Below w.heap.size w W) (hR : ¬ R r) (hrw : r < w.heap.size) : RefPost w R r res e w' := by
  obtain ⟨h1, ⟨o, pA, pn, pc, h2⟩, h3⟩ := h
  have hs := hb.size
  exact ⟨h1, ⟨o, pA, pn, pc, h2.wide (fun k hk => hk.imp id fun h => ⟨by omega, h.2⟩) (fun hk => by rcases hk with hk | hk; exact hR hk; omega)⟩, (Step.of_below hb _).trans h3⟩
theorem own_more {t e : TypeId} {sz : Nat} (T : RowT t e sz) {W : World} {base : Nat} {A : Option Addr} {m c : Nat} {xs : List Value} (ho : W.ownsRow base e sz (.slice A m c) m xs) (hb : base ≤ W.heap.size) {xc : Array Value} (hxc : xc.size = sz) (h1 : ∀ u ∈ xc.toList, u.oneCell' = true) (hm : m + 1 ≤ 1000000000) :
    ∃ A' c' w', (Builtin.append_ #[t, t] t #[.slice A m c, .slice (some ⟨W.heap.size, 0, none⟩) 1 1]).run Tryz.prog (W.alloc (.cells xc e)) = .ok (.slice A' (m + 1) c') w' ∧ w'.ownsRow base e sz (.slice A' (m + 1) c') (m + 1) (xs ++ xc.toList) ∧ ∀ {b0 : World}, Below base b0 W → Below base b0 w' := by
  have hs := (Blk.new W e xc).slc (sz := sz) (n := 1) (c := 1) (by omega) (Nat.le_refl _) (by decide)
  rw [Nat.one_mul, List.take_of_length_le (by rw [Array.length_toList]; omega)] at hs
  obtain ⟨A', c', w', r1, o1, g1, _⟩ := T.app (ho.alloc (.cells xc e)) hs h1 hm (by simp; omega)
  exact ⟨A', c', w', r1, o1, fun h => (h.alloc hb _).grown g1 (by simp; omega) (fun q hq => (ho.lt q hq).1)⟩
theorem own_drew {W : World} {base : Nat} {e : TypeId} {sz : Nat} {v : Value} {n : Nat} {xs : List Value} (h : W.ownsRow base e sz v n xs) (q : Nat) : (W.drewN q).ownsRow base e sz v n xs := h
theorem filt_succ {α : Type} (p : α → Bool) (l : List α) {k : Nat} (hk : k < l.length) : (l.take (k + 1)).filter p = (l.take k).filter p ++ (if p l[k] then [l[k]] else []) := by
  rw [List.take_succ_eq_append_getElem hk, List.filter_append]
  congr 1
  by_cases h : p l[k] = true
  · simp [h]
  · simp [h]
theorem filt_le {α : Type} (p : α → Bool) (l : List α) (k : Nat) : ((l.take k).filter p).length ≤ l.length := Nat.le_trans (List.length_filter_le ..) (by rw [List.length_take]; omega)
/-- The files that are kept. -/
theorem files_kept {W w9 : World} (h : RefV W R r s o pA pn pc) (hbW : Below w.heap.size w W) (hrw : r < w.heap.size) (hb9 : Below W.heap.size W w9) {A9 : Option Addr} {m9 c9 : Nat} {name : Txt} (ho : w9.ownsRow W.heap.size 35 3 (.slice A9 m9 c9) m9 ((o.es.filter (keepE name)).flatMap evCells)) :
    RefPost w R r (⟨s.files.filter fun x => decide (x.path ≠ name), s.users, s.units, s.plan⟩, 0) (.returned (.int .i64 0)) (w9.setCell ⟨r, 0, none⟩ (.slice A9 m9 c9)) := by
  have h9 := h.below hb9
  have hz := hbW.size
  have hb := hbW.trans (hb9.mono hz)
  have hout : ¬ Fn R w w9 r := fun hk => by rcases hk with hk | hk; exact h9.out hk; omega
  have hv := h9.wide (fn_wide R w w9) hout
  have hl : (o.es.filter (keepE name)).length = m9 := by have h1 := ho.1; rw [flatMap_len evCells 3 _ (fun o _ => evCells_length o)] at h1; omega
  have hset := hv.setFiles (es := o.es.filter (keepE name)) ⟨own_slc_of ho, hl, fun e he => h9.obs.at_.files.data e (List.mem_filter.1 he).1⟩ (fun a ha => by have := own_in ho a ha; exact .inr ⟨by omega, this.2⟩) (fun e he a ha => .inl (h9.obs.data e (List.mem_filter.1 he).1 a ha))
  refine ⟨rfl, ?_, step_bel_set hb r 0 _⟩
  rw [fn_set]
  rw [filter_ents, h.ents] at hset
  exact ⟨_, _, _, _, hset⟩
theorem users_kept {W w9 : World} (h : RefV W R r s o pA pn pc) (hbW : Below w.heap.size w W) (hrw : r < w.heap.size) (hb9 : Below W.heap.size W w9) {A9 : Option Addr} {m9 c9 : Nat} {name : Txt} (ho : w9.ownsRow W.heap.size 9 1 (.slice A9 m9 c9) m9 ((o.users.filter (keepT name)).map encStr)) :
    RefPost w R r (⟨s.files, s.users.filter fun x => decide (x ≠ name), s.units, s.plan⟩, 0) (.returned (.int .i64 0)) (w9.setCell ⟨r, 1, none⟩ (.slice A9 m9 c9)) := by
  have h9 := h.below hb9
  have hz := hbW.size
  have hb := hbW.trans (hb9.mono hz)
  have hout : ¬ Fn R w w9 r := fun hk => by rcases hk with hk | hk; exact h9.out hk; omega
  have hv := h9.wide (fn_wide R w w9) hout
  have hset := hv.setUsers (l := o.users.filter (keepT name)) (own_slc_of ho) (fun a ha => by have := own_in ho a ha; exact .inr ⟨by omega, this.2⟩)
  refine ⟨rfl, ?_, step_bel_set hb r 1 _⟩
  rw [fn_set]
  rw [filter_texts, h.users] at hset
  exact ⟨_, _, _, _, hset⟩
set_option maxRecDepth 100000 in
set_option maxHeartbeats 8000000 in
theorem refDo20_any (h : RefV w R r s o pA pn pc) (hg : GoodM s) (hRl : ∀ k, R k → k < w.heap.size) (hn : pn ≤ 1000000000) {B : Nat} (a : AV) (ha : ActAt w B a) (hB : B ≤ w.heap.size) (hs : SmallA a) (hsep : (0 < a.unit.n → ∀ x, a.unit.A = some x → x.block ≠ r) ∧ (0 < a.unit.n2 → ∀ x, a.unit.A2 = some x → x.block ≠ r)) :
    Calls Tryz.prog 23 #[.pointer (some ⟨r, 0, none⟩), .agg (avArr a)] w (RefPost w R r (doM s a.act)) := by
  have hl := h.lens
  have hrw := h.blk.lt
  have hout := h.out
  have hof : o.n ≤ 24 := by have := hg.nf; omega
  have hou : o.n2 ≤ 16 := by have := hg.nu; omega
  have hon : o.n3 ≤ 24 := by have := hg.nn; omega
  obtain ⟨W1, hW1⟩ : ∃ W1, W1 = w.alloc (.cells (avArr a) 61) := ⟨_, rfl⟩
  have hb1 : Below w.heap.size w W1 := by rw [hW1]; exact (Below.refl _ w).alloc (Nat.le_refl _) _
  have hz1 : W1.heap.size = w.heap.size + 1 := by rw [hW1]; simp
  have hG1 : Blk W1 w.heap.size 61 (avArr a) := by rw [hW1]; exact Blk.new _ _ _
  have h1 := h.below hb1
  have ha1 := ha.below (hb1.mono hB)
  have hB1 : B ≤ W1.heap.size := by omega
  have hRl1 : ∀ k, R k → k < W1.heap.size := fun k hk => by have := hRl k hk; omega
  have c1 := refStop20_any h1 hn (by omega) a.name
  have c4 := refFile20_any h1 (by omega) a ha1.data hB1 hs
  have c5 := refUser20_any h1 (by omega) a.name hs.name
  have c6 := refStart20_any h1 hRl1 hn (by omega) a ha1 hB1 hs hsep
  have H1 := Lib.hid h1
  have HB := Lib.hid hb1
  have HG1 := Lib.hid hG1
  have HL := Lib.hid hl
  have fin : Hid (∀ w', Below w.heap.size w w' → RefPost w R r (s, 70) (.returned (.int .i64 70)) w') := fun w' hb => ⟨rfl, ⟨_, _, _, _, (h.below hb).wide (fn_wide _ _ _) (h.fn w')⟩, (Step.of_below hb (fun k => k = r))⟩
  have x0 := hG1.cell 0
  have x1 := hG1.cell 1
  have x2 := hG1.cell 2
  have x3 := hG1.cell 3
  have x4 := hG1.cell 4
  have x5 := hG1.cell 5
  have x6 := hG1.cell 6
  have x7 := hG1.cell 7
  have x8 := hG1.cell 8
  have m0 := h1.facts.1
  have m1 := h1.facts.2.1
  have r1 := h1.blk.lt
  obtain ⟨kind, name, ⟨fp, fk, fd, fA, fn, fc⟩, ⟨nm, st, rq, A', n', c', af, A2', n2', c2'⟩⟩ := a
  rw [hW1] at x0 x1 x2 x3 x4 x5 x6 x7 x8 c1 c4 c5 c6 m0 m1
  have hHB := hb1
  rw [hW1] at hHB
  have hWW := hW1
  unfold avArr at x0 x1 x2 x3 x4 x5 x6 x7 x8 c1 c4 c5 c6 m0 m1 hHB hWW ⊢
  simp only at c1 c4 c5 c6 m0 m1 hHB hWW ⊢
  simp only [List.getElem?_toArray, List.getElem?_cons_zero, List.getElem?_cons_succ] at x0 x1 x2 x3 x4 x5 x6 x7 x8
  change Calls _ _ _ _ (RefPost w R r (doM s ⟨kind, name, ⟨fp, fk, fd⟩, ⟨nm, st, rq, af⟩⟩))
  change Calls _ _ _ _ (RefPost _ R r (doFile s name ⟨fp, fk, fd⟩)) at c4
  change Calls _ _ _ _ (RefPost _ R r (doStart s name ⟨nm, st, rq, af⟩)) at c6
  have HBB := Lib.hid hHB
  have HWW := Lib.hid hWW
  clear hG1 h h1 ha1 hB1 hRl1 ha hs hsep hRl hW1 hB hHB hg hl hz1 hb1 hWW
  by_cases k1 : kind = 1
  · subst k1
    rw [show doM s ⟨1, name, ⟨fp, fk, fd⟩, ⟨nm, st, rq, af⟩⟩ = doStop s name from rfl]
    clear c4 c5 c6
    go_enter Tryz.func23, Tryz.ntmps23
    go_wp2_with (go_at_call 52; refine c1.mono ?_; clear c1; rintro e w2 hp; obtain ⟨rfl, hp2⟩ := RefPost.later hp HBB.out hout hrw; have HP := Lib.hid hp2; clear hp hp2)
    go_ret
    exact ⟨rfl, HP.out⟩
  by_cases k2 : kind = 2
  · subst k2
    rw [show doM s ⟨2, name, ⟨fp, fk, fd⟩, ⟨nm, st, rq, af⟩⟩ = (⟨s.files.filter fun x => decide (x.path ≠ name), s.users, s.units, s.plan⟩, 0) from rfl]
    clear c1 c4 c5 c6
    obtain ⟨A, n, c, es, A2, n2, c2, users, A3, n3, c3, us⟩ := o
    simp only at hof hou hon m0 m1
    have hln : es.length = n := by exact HL.out.2.1
    have HLN := Lib.hid hln
    go_enter Tryz.func23, Tryz.ntmps23
    go_wp2_with (fail)
    rw [← HWW.out]
    clear x0 x1 x2 x3 x4 x5 x6 x7 x8 m0 m1 hln
    go_loopw [5, 6] (fun sl i wr => ∃ (k m : Nat) (A5 : Option Addr) (c5 : Nat), k ≤ n ∧ i = .int .i64 (k : Int) ∧ sl = .slice A5 m c5 ∧ m ≤ k ∧ Aside (wr.ownsRow W1.heap.size 35 3 (.slice A5 m c5) m (((es.take k).filter (keepE name)).flatMap evCells)) ∧ Aside (Below W1.heap.size W1 wr)) (fun _ i _ => n - (intOf i).toNat)
    case atStart => exact ⟨0, 0, none, 0, Nat.zero_le _, rfl, rfl, Nat.le_refl _, World.ownsRow_nil _ _ _ _, Below.refl _ _⟩
    case round =>
      obtain ⟨k, m, A5, c5, hk, rfl, rfl, hmk, ho, hb⟩ := hrel
      have HR := Lib.hid (H1.out.below hb.out)
      have hrl := HR.out.blk.lt
      have m0 : wr.cell? ⟨r, 0, none⟩ = some (.slice A n c) := HR.out.facts.1
      have hG := HG1.out.below hb.out HG1.out.lt
      have b1 : wr.cell? ⟨w.heap.size, 1, none⟩ = some (.string ⟨name.toArray⟩) := hG.cell 1
      have hgl := hG.lt
      clear hG
      by_cases hlt : k < n
      · obtain ⟨b, off, hA, hbB, hl, c0, c1, c2', hS⟩ := HR.out.obs.at_.files.at_ hlt
        simp only at hA hl c0 c1 c2'
        have HF := Lib.hid (filt_succ (keepE name) es hl)
        subst hA
        generalize es[k] = x at *
        have tx : (ByteArray.mk x.path.toArray).toList = x.path := Go.ByteArray.toList_eq _
        have ty : (ByteArray.mk name.toArray).toList = name := Go.ByteArray.toList_eq _
        cases hxe : (x.path == name) with
        | true =>
          have hkf := show keepE name x = false by unfold keepE; exact decide_eq_false (fun h9 => h9 (by simpa using hxe))
          rw [hkf] at HF
          simp only [Bool.false_eq_true, if_false] at HF
          have HO := Lib.hid (show wr.ownsRow W1.heap.size 35 3 (.slice A5 m c5) m (((es.take (k + 1)).filter (keepE name)).flatMap evCells) from by rw [HF.out, List.append_nil]; exact ho.out)
          clear hkf hbB c1 c2' hS
          go_wp2
          go_quiet (fail)
          go_wp2
          exact ⟨⟨k + 1, m, A5, c5, by omega, by go_num, rfl, by omega, own_drew HO.out _, bel_drewN hb.out _⟩, by simp [intOf]; omega⟩
        | false =>
          have hkt := show keepE name x = true by unfold keepE; exact decide_eq_true (fun h9 => by rw [h9] at hxe; simp at hxe)
          rw [hkt] at HF
          simp only [if_true] at HF
          clear hkt
          go_wp2
          go_quiet (fail)
          generalize hwx : wr.drewN _ = wx
          have hbx : Below wr.heap.size wr wx := by rw [← hwx]; exact dr_below _ _
          have hox : wx.ownsRow W1.heap.size 35 3 (.slice A5 m c5) m (((es.take k).filter (keepE name)).flatMap evCells) := by rw [← hwx]; exact own_drew ho.out _
          have m0x : wx.cell? ⟨r, 0, none⟩ = some (.slice (some ⟨b, off, none⟩) n c) := (hbx.cell (p := ⟨r, 0, none⟩) hrl).trans m0
          have d0 : wx.cell? ⟨b, off + k * 3, none⟩ = some (.string ⟨x.path.toArray⟩) := (hbx.cell (p := ⟨b, off + k * 3, none⟩) hbB).trans c0
          have d1 : wx.cell? ⟨b, off + k * 3 + 1, none⟩ = some (.int .i64 x.kind) := (hbx.cell (p := ⟨b, off + k * 3 + 1, none⟩) hbB).trans c1
          have d2 : wx.cell? ⟨b, off + k * 3 + 2, none⟩ = some (.slice x.A x.n x.c) := (hbx.cell (p := ⟨b, off + k * 3 + 2, none⟩) hbB).trans c2'
          have HBX := Lib.hid (hb.out.trans (hbx.mono hb.out.size))
          obtain ⟨A6, c6, w6, r6, o1, hb6⟩ := own_more rowT_ent hox HBX.out.size (xc := (evArr x)) rfl (fun u hu => evCells_one [x] u (by simpa [evArr, evCells] using hu)) (by omega)
          have HR1 := Lib.hid r6
          unfold evArr at HR1
          have HO := Lib.hid (show w6.ownsRow W1.heap.size 35 3 (.slice A6 (m + 1) c6) (m + 1) (((es.take (k + 1)).filter (keepE name)).flatMap evCells) from by rw [HF.out, List.flatMap_append]; simp only [List.flatMap_cons, List.flatMap_nil, List.append_nil]; exact o1)
          have HB6 := Lib.hid (hb6 HBX.out)
          clear hwx hbx hox r6 o1 hb6 hbB m0 b1 c1 c2' hS
          go_wp2_with (at_builtin; refine wpList_append_run rfl _ _ _ rfl rfl rfl HR1.out ?_; clear HR1)
          exact ⟨⟨k + 1, m + 1, A6, c6, by omega, by go_num, rfl, by omega, HO.out, HB6.out⟩, by simp [intOf]; omega⟩
      · obtain rfl : k = n := by omega
        have hfo : wr.ownsRow W1.heap.size 35 3 (.slice A5 m c5) m ((es.filter (keepE name)).flatMap evCells) := by
          have h9 := ho.out
          rwa [List.take_of_length_le (Nat.le_of_eq HLN.out)] at h9
        have HP := Lib.hid (files_kept H1.out HB.out hrw hb.out hfo)
        have nf0 := HR.out.facts.2.2.2.2 0
        clear hfo
        go_wp2
        go_ret
        exact HP.out
  by_cases k3 : kind = 3
  · subst k3
    rw [show doM s ⟨3, name, ⟨fp, fk, fd⟩, ⟨nm, st, rq, af⟩⟩ = (⟨s.files, s.users.filter fun x => decide (x ≠ name), s.units, s.plan⟩, 0) from rfl]
    clear c1 c4 c5 c6
    obtain ⟨A, n, c, es, A2, n2, c2, users, A3, n3, c3, us⟩ := o
    simp only at hof hou hon m0 m1
    have hln : users.length = n2 := by have h8 := congrArg List.length H1.out.users; have h9 := HL.out.2.2.1; simp only at h8 h9; omega
    have HLN := Lib.hid hln
    go_enter Tryz.func23, Tryz.ntmps23
    go_wp2_with (fail)
    rw [← HWW.out]
    clear x0 x1 x2 x3 x4 x5 x6 x7 x8 m0 m1 hln
    go_loopw [7, 8] (fun sl i wr => ∃ (k m : Nat) (A5 : Option Addr) (c5 : Nat), k ≤ n2 ∧ i = .int .i64 (k : Int) ∧ sl = .slice A5 m c5 ∧ m ≤ k ∧ Aside (wr.ownsRow W1.heap.size 9 1 (.slice A5 m c5) m (((users.take k).filter (keepT name)).map encStr)) ∧ Aside (Below W1.heap.size W1 wr)) (fun _ i _ => n2 - (intOf i).toNat)
    case atStart => exact ⟨0, 0, none, 0, Nat.zero_le _, rfl, rfl, Nat.le_refl _, World.ownsRow_nil _ _ _ _, Below.refl _ _⟩
    case round =>
      obtain ⟨k, m, A5, c5, hk, rfl, rfl, hmk, ho, hb⟩ := hrel
      have HR := Lib.hid (H1.out.below hb.out)
      have hrl := HR.out.blk.lt
      have m0 : wr.cell? ⟨r, 1, none⟩ = some (.slice A2 n2 c2) := HR.out.facts.2.1
      have hG := HG1.out.below hb.out HG1.out.lt
      have b1 : wr.cell? ⟨w.heap.size, 1, none⟩ = some (.string ⟨name.toArray⟩) := hG.cell 1
      have hgl := hG.lt
      clear hG
      by_cases hlt : k < n2
      · obtain ⟨b, off, hA, hbB, hl, c0⟩ := txtAt HR.out.obs.at_.users hlt
        simp only at hA hl c0
        have HF := Lib.hid (filt_succ (keepT name) users hl)
        subst hA
        generalize users[k] = x at *
        have tx : (ByteArray.mk x.toArray).toList = x := Go.ByteArray.toList_eq _
        have ty : (ByteArray.mk name.toArray).toList = name := Go.ByteArray.toList_eq _
        cases hxe : (x == name) with
        | true =>
          have hkf := show keepT name x = false by unfold keepT; exact decide_eq_false (fun h9 => h9 (by simpa using hxe))
          rw [hkf] at HF
          simp only [Bool.false_eq_true, if_false] at HF
          have HO := Lib.hid (show wr.ownsRow W1.heap.size 9 1 (.slice A5 m c5) m (((users.take (k + 1)).filter (keepT name)).map encStr) from by rw [HF.out, List.append_nil]; exact ho.out)
          clear hkf hbB 
          go_wp2
          go_quiet (fail)
          go_wp2
          exact ⟨⟨k + 1, m, A5, c5, by omega, by go_num, rfl, by omega, own_drew HO.out _, bel_drewN hb.out _⟩, by simp [intOf]; omega⟩
        | false =>
          have hkt := show keepT name x = true by unfold keepT; exact decide_eq_true (fun h9 => by rw [h9] at hxe; simp at hxe)
          rw [hkt] at HF
          simp only [if_true] at HF
          clear hkt
          go_wp2
          go_quiet (fail)
          generalize hwx : wr.drewN _ = wx
          have hbx : Below wr.heap.size wr wx := by rw [← hwx]; exact dr_below _ _
          have hox : wx.ownsRow W1.heap.size 9 1 (.slice A5 m c5) m (((users.take k).filter (keepT name)).map encStr) := by rw [← hwx]; exact own_drew ho.out _
          have m0x : wx.cell? ⟨r, 1, none⟩ = some (.slice (some ⟨b, off, none⟩) n2 c2) := (hbx.cell (p := ⟨r, 1, none⟩) hrl).trans m0
          have d0 : wx.cell? ⟨b, off + k, none⟩ = some (.string ⟨x.toArray⟩) := (hbx.cell (p := ⟨b, off + k, none⟩) hbB).trans c0
          have HBX := Lib.hid (hb.out.trans (hbx.mono hb.out.size))
          obtain ⟨A6, c6, w6, r6, o1, hb6⟩ := own_more rowT_txt hox HBX.out.size (xc := #[.string ⟨x.toArray⟩]) rfl (fun u hu => by rw [List.mem_singleton.1 hu]; rfl) (by omega)
          have HR1 := Lib.hid r6
          skip
          have HO := Lib.hid (show w6.ownsRow W1.heap.size 9 1 (.slice A6 (m + 1) c6) (m + 1) (((users.take (k + 1)).filter (keepT name)).map encStr) from by rw [HF.out, List.map_append]; exact o1)
          have HB6 := Lib.hid (hb6 HBX.out)
          clear hwx hbx hox r6 o1 hb6 hbB m0 b1 
          go_wp2_with (at_builtin; refine wpList_append_run rfl _ _ _ rfl rfl rfl HR1.out ?_; clear HR1)
          exact ⟨⟨k + 1, m + 1, A6, c6, by omega, by go_num, rfl, by omega, HO.out, HB6.out⟩, by simp [intOf]; omega⟩
      · obtain rfl : k = n2 := by omega
        have hfo : wr.ownsRow W1.heap.size 9 1 (.slice A5 m c5) m ((users.filter (keepT name)).map encStr) := by
          have h9 := ho.out
          rwa [List.take_of_length_le (Nat.le_of_eq HLN.out)] at h9
        have HP := Lib.hid (users_kept H1.out HB.out hrw hb.out hfo)
        have nf0 := HR.out.facts.2.2.2.2 1
        clear hfo
        go_wp2
        go_ret
        exact HP.out
  by_cases k4 : kind = 4
  · subst k4
    rw [show doM s ⟨4, name, ⟨fp, fk, fd⟩, ⟨nm, st, rq, af⟩⟩ = doFile s name ⟨fp, fk, fd⟩ from rfl]
    clear c1 c5 c6
    go_enter Tryz.func23, Tryz.ntmps23
    go_wp2_with (go_at_call 53; refine c4.mono ?_; clear c4; rintro e w2 hp; obtain ⟨rfl, hp2⟩ := RefPost.later hp HBB.out hout hrw; have HP := Lib.hid hp2; clear hp hp2)
    go_ret
    exact ⟨rfl, HP.out⟩
  by_cases k5 : kind = 5
  · subst k5
    rw [show doM s ⟨5, name, ⟨fp, fk, fd⟩, ⟨nm, st, rq, af⟩⟩ = doUser s name from rfl]
    clear c1 c4 c6
    go_enter Tryz.func23, Tryz.ntmps23
    go_wp2_with (go_at_call 54; refine c5.mono ?_; clear c5; rintro e w2 hp; obtain ⟨rfl, hp2⟩ := RefPost.later hp HBB.out hout hrw; have HP := Lib.hid hp2; clear hp hp2)
    go_ret
    exact ⟨rfl, HP.out⟩
  by_cases k6 : kind = 6
  · subst k6
    rw [show doM s ⟨6, name, ⟨fp, fk, fd⟩, ⟨nm, st, rq, af⟩⟩ = doStart s name ⟨nm, st, rq, af⟩ from rfl]
    clear c1 c4 c5
    go_enter Tryz.func23, Tryz.ntmps23
    go_wp2_with (go_at_call 55; refine c6.mono ?_; clear c6; rintro e w2 hp; obtain ⟨rfl, hp2⟩ := RefPost.later hp HBB.out hout hrw; have HP := Lib.hid hp2; clear hp hp2)
    go_ret
    exact ⟨rfl, HP.out⟩
  have HX := Lib.hid (show doM s ⟨kind, name, ⟨fp, fk, fd⟩, ⟨nm, st, rq, af⟩⟩ = (s, 70) by unfold doM; rw [if_neg k1, if_neg k2, if_neg k3, if_neg k4, if_neg k5, if_neg k6])
  have e1 : (kind == 1) = false := by rw [beq_eq_false_iff_ne]; exact k1
  have e2 : (kind == 2) = false := by rw [beq_eq_false_iff_ne]; exact k2
  have e3 : (kind == 3) = false := by rw [beq_eq_false_iff_ne]; exact k3
  have e4 : (kind == 4) = false := by rw [beq_eq_false_iff_ne]; exact k4
  have e5 : (kind == 5) = false := by rw [beq_eq_false_iff_ne]; exact k5
  have e6 : (kind == 6) = false := by rw [beq_eq_false_iff_ne]; exact k6
  clear c1 c4 c5 c6 k1 k2 k3 k4 k5 k6
  go_enter Tryz.func23, Tryz.ntmps23
  go_wp2_with (fail)
  go_ret
  rw [HX.out]
  exact fin.out _ HBB.out
end
end Go.Proofs.YtibndaianhlcaaaGreatDoor
