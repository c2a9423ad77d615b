/- The walk of BootNumbers. -/
import Derived.Test.YtdhlklidenfbeaaDoorLaw22B
namespace Go.Proofs.YtdhlklidenfbeaaDoor
open Go.RowKit Go.Sort
set_option linter.unusedVariables false
set_option linter.unusedSimpArgs false

section
attribute [local go_sem ↓] load_menu_mark store_menu_mark
set_option maxRecDepth 100000 in
set_option maxHeartbeats 4000000 in
theorem numbers_any {w : World} {A : Option Addr} {n c : Nat} {l : List MOp} (h : Slc w w.heap.size 2 A n c (l.flatMap mopCells)) (hl : l.length = n) (hop : ∀ o ∈ l, MOpOk o) :
    Calls Tryd.prog 6 #[.slice A n c] w fun e w' => e = .returned (.bool true) ∧ Below w.heap.size w w' := by
  have hs := shown_any w
  have hn62 : n ≤ 9223372036854775807 := by have := h.le; have := h.cmax; unfold maxLen at this; omega
  have H := Lib.hid h
  have HL := Lib.hid hl
  have HOP := Lib.hid hop
  clear h hl hop
  go_enter Tryd.func6, Tryd.ntmps6
  go_wp2_with (go_at_call 24; refine hs.mono ?_; clear hs; rintro e1 w1 ⟨rfl, hb1⟩; obtain ⟨hs1, hB1, hn1⟩ := new_zero w1)
  go_loopw [5, 6] (fun q i wr => ∃ (k : Nat) (M : Menu) (A2 : Option Addr) (n2 c2 : Nat), k ≤ 200 ∧ k ≤ n ∧ q = .int .i64 M.last ∧ i = .int .i64 (k : Int) ∧ Aside (Held w wr w1.heap.size M A2 n2 c2)) (fun _ i _ => 200 - (intOf i).toNat)
  case atStart => exact ⟨0, zeroM, none, 0, 0, Nat.zero_le _, Nat.zero_le _, rfl, rfl, (menuB_iff _).1 zeroM_ok, zeroM_short, hB1, gens_nil _ _, hb1.trans (hn1.mono hb1.size)⟩
  case round =>
    obtain ⟨k, M, A2, n2, c2, hk60, hkn, rfl, rfl, hh⟩ := hrel
    have hMl := hh.out.blk.lt
    by_cases hlt : k < n ∧ k < 200
    · obtain ⟨hlt1, hlt2⟩ := hlt
      obtain ⟨b, off, rfl, hbB, hl', d0, d1⟩ := mop_cells (H.out.below hh.out.bel) HL.out hlt1
      have hbl : b < wr.heap.size := Nat.lt_of_lt_of_le hbB hh.out.bel.size
      have HOK := Lib.hid (HOP.out _ (List.getElem_mem hl'))
      generalize l[k] = o at *
      have hdr : Below wr.heap.size wr wr.drew := (Below.refl wr.heap.size wr).drew
      have hda : Below wr.heap.size wr (wr.drew.alloc (.cells #[.int .i64 0, .int .i64 0, .int .i64 0, .int .i64 0, .slice none 0 0] 63)) := hdr.alloc (Nat.le_refl _) _
      have HK := Lib.hid (fun (W' : World) (hw : Below wr.heap.size wr W') => show (LoadS 63 (.pointer (some ⟨w1.heap.size, 0, none⟩))).run Tryd.prog W' = .ok (menuV M A2 n2 c2) W' ∧ W'.cell? ⟨b, off + k * 2, none⟩ = some (.int .i64 o.kind) ∧ W'.cell? ⟨b, off + k * 2 + 1, none⟩ = some (.int .i64 o.n) from
        ⟨(hh.out.blk.below hw hMl).load, (hw.cell (p := ⟨b, off + k * 2, none⟩) hbl).trans d0, (hw.cell (p := ⟨b, off + k * 2 + 1, none⟩) hbl).trans d1⟩)
      have HC := Lib.hid (fun (W' : World) (hw : Below wr.heap.size wr W') => change_any (hh.out.gens.below hw) hw.size hh.out.short (hh.out.ok.n16 hh.out.gens) o HOK.out.n)
      have HX := Lib.hid (fun he => opM_ok (o := o) hh.out.ok he)
      have HZ := Lib.hid (opM_refused M o)
      have HS := Lib.hid (opM_short M o hh.out.short)
      have hR0 : Blk wr w1.heap.size 63 (mnCells M A2 n2 c2) := hh.out.blk
      have HR0 := Lib.hid hR0
      have HZ0 := Lib.hid (show Blk (wr.drew.alloc (.cells #[.int .i64 0, .int .i64 0, .int .i64 0, .int .i64 0, .slice none 0 0] 63)) wr.heap.size 63 #[.int .i64 0, .int .i64 0, .int .i64 0, .int .i64 0, .slice none 0 0] from Blk.new wr.drew 63 #[.int .i64 0, .int .i64 0, .int .i64 0, .int .i64 0, .slice none 0 0])
      clear hR0
      by_cases he : (opM M o).err = 0
      · have ke : ((opM M o).err != 0) = false := by simpa using he
        obtain ⟨x1, x2, x3⟩ := HX.out he
        have HOK1 := Lib.hid x1
        have HR1 := Lib.hid ((menuB_iff _).2 x1)
        clear HX HZ
        by_cases hkind : o.kind = 0
        · have kk : (o.kind == 0) = true := by simpa using hkind
          obtain ⟨y1, l0, p0, y2⟩ := x2 hkind
          obtain ⟨L, hL⟩ : ∃ L, L = M.last + 1 := ⟨_, rfl⟩
          rw [← hL] at y1 y2
          have HL1 := Lib.hid y1
          have HG1 := Lib.hid y2
          have hLa : ¬ L ≤ M.last := by omega
          clear x1 x2 x3 y1 y2 hL hkind
          generalize opM M o = X at *
          go_wp2_with (fail)
          go_region_held3 (fun W' => (LoadS 63 (.pointer (some ⟨w1.heap.size, 0, none⟩))).run Tryd.prog W' = .ok (menuV M A2 n2 c2) W' ∧ W'.cell? ⟨b, off + k * 2, none⟩ = some (.int .i64 o.kind) ∧ W'.cell? ⟨b, off + k * 2 + 1, none⟩ = some (.int .i64 o.n)) (exact HK.out _ (by assumption)) (first
            | (go_at_call 25; refine (HC.out wr.drew hdr).mono ?_; rintro e3 w3 ⟨v3, rfl, hg3⟩; have hSZ := hdr.size; have hq3 := hdr.trans (show Below wr.heap.size wr.drew w3 from hg3.choose_spec.choose_spec.choose_spec.2.2); have hq4 := hq3.alloc hq3.size (.cells #[.int .i64 0, .int .i64 0, .int .i64 0, .int .i64 0, .slice none 0 0] 63); obtain ⟨A4, n4, c4, rfl, hs4, hl4, hB4, ho4, hb4, hR4⟩ := got_new4 hg3 (HR0.out.below hq3 HR0.out.lt); have hq5 := hdr.trans (show Below wr.heap.size wr.drew _ from hb4); go_loud (obtain ⟨_, z0, z1⟩ := HK.out _ hq5; obtain ⟨m0, m1, m2, m3, m4, mf⟩ := hB4.facts; rw [HL1.out] at m0; have hG4 := own_gens ho4; obtain rfl : n4 = l0.length + 1 := (by have := hG4.len; rw [HG1.out] at this; simpa using this.symm); obtain ⟨bx, ox, rfl, hbx, hlx, gx, gy⟩ := hG4.at_ (k := l0.length) (by omega); have hgx : X.menu.gens[l0.length].num = L := (by simp only [HG1.out]; simp); rw [hgx] at gx; have hxl : l0.length ≤ 20 := (by have := HOK1.out.head.2.2; have := hG4.len; omega); obtain ⟨hs5, hB5⟩ := MenuBlk.store hR4 rfl X.menu (some ⟨bx, ox, none⟩) (l0.length + 1) c4; have hG5 := own_gens (own_row ho4 (own_ne ho4 (Nat.lt_of_lt_of_le hMl hSZ)) (mnCells X.menu (some ⟨bx, ox, none⟩) (l0.length + 1) c4)); have hl5 := hB5.load; have hF5 := below_row (hh.out.bel.trans (hq5.mono hh.out.bel.size)) hb1.size (mnCells X.menu (some ⟨bx, ox, none⟩) (l0.length + 1) c4); have hrt := right_any hG5 (Nat.le_refl _) HS.out; rw [HR1.out] at hrt))
            | (go_at_call 25; refine (HC.out (wr.drew.alloc (.cells #[.int .i64 0, .int .i64 0, .int .i64 0, .int .i64 0, .slice none 0 0] 63)) hda).mono ?_; rintro e3 w3 ⟨v3, rfl, hg3⟩; have hSZ := hda.size; have hq3 := hda.trans ((show Below (wr.drew.alloc (.cells #[.int .i64 0, .int .i64 0, .int .i64 0, .int .i64 0, .slice none 0 0] 63)).heap.size (wr.drew.alloc (.cells #[.int .i64 0, .int .i64 0, .int .i64 0, .int .i64 0, .slice none 0 0] 63)) w3 from hg3.choose_spec.choose_spec.choose_spec.2.2).mono hda.size); obtain ⟨A4, n4, c4, rfl, hs4, hl4, hB4, ho4, hb4, hR4⟩ := got_old4 hg3 (HR0.out.below hda HR0.out.lt) HZ0.out rfl (Nat.ne_of_lt hMl); have hq5 := hda.trans hb4; go_loud (obtain ⟨_, z0, z1⟩ := HK.out _ hq5; obtain ⟨m0, m1, m2, m3, m4, mf⟩ := hB4.facts; rw [HL1.out] at m0; have hG4 := own_gens ho4; obtain rfl : n4 = l0.length + 1 := (by have := hG4.len; rw [HG1.out] at this; simpa using this.symm); obtain ⟨bx, ox, rfl, hbx, hlx, gx, gy⟩ := hG4.at_ (k := l0.length) (by omega); have hgx : X.menu.gens[l0.length].num = L := (by simp only [HG1.out]; simp); rw [hgx] at gx; have hxl : l0.length ≤ 20 := (by have := HOK1.out.head.2.2; have := hG4.len; omega); obtain ⟨hs5, hB5⟩ := MenuBlk.store hR4 rfl X.menu (some ⟨bx, ox, none⟩) (l0.length + 1) c4; have hG5 := own_gens (own_row ho4 (own_ne ho4 (Nat.lt_of_lt_of_le hMl hSZ)) (mnCells X.menu (some ⟨bx, ox, none⟩) (l0.length + 1) c4)); have hl5 := hB5.load; have hF5 := below_row (hh.out.bel.trans (hq5.mono hh.out.bel.size)) hb1.size (mnCells X.menu (some ⟨bx, ox, none⟩) (l0.length + 1) c4); have hrt := right_any hG5 (Nat.le_refl _) HS.out; rw [HR1.out] at hrt)))
          all_goals go_wp2_with (first
          | (go_at_call 26; refine hrt.mono ?_; clear hrt; rintro e6 w6 ⟨rfl, hb6⟩; have hB6 := hB5.below hb6 hB5.lt; obtain ⟨r0, r1, r2, r3, r4, rf⟩ := hB6.facts; rw [HL1.out] at r0; have HF := Lib.hid (show Held w _ w1.heap.size X.menu (some ⟨bx, ox, none⟩) (l0.length + 1) c4 from ⟨HOK1.out, HS.out, hB6, (hG5.below hb6).more hb6.size, hF5.trans (hb6.mono hF5.size)⟩)))
          all_goals exact ⟨⟨k + 1, X.menu, _, _, c4, by omega, by omega, by rw [HL1.out], by go_num, HF.out⟩, by simp [intOf]; omega⟩
        · have kk : (o.kind == 0) = false := by simpa using hkind
          have HL1 := Lib.hid (x3 hkind)
          clear x1 x2 x3 hkind
          generalize opM M o = X at *
          go_wp2_with (fail)
          go_region_held3 (fun W' => (LoadS 63 (.pointer (some ⟨w1.heap.size, 0, none⟩))).run Tryd.prog W' = .ok (menuV M A2 n2 c2) W' ∧ W'.cell? ⟨b, off + k * 2, none⟩ = some (.int .i64 o.kind) ∧ W'.cell? ⟨b, off + k * 2 + 1, none⟩ = some (.int .i64 o.n)) (exact HK.out _ (by assumption)) (first
            | (go_at_call 25; refine (HC.out wr.drew hdr).mono ?_; rintro e3 w3 ⟨v3, rfl, hg3⟩; have hSZ := hdr.size; have hq3 := hdr.trans (show Below wr.heap.size wr.drew w3 from hg3.choose_spec.choose_spec.choose_spec.2.2); have hq4 := hq3.alloc hq3.size (.cells #[.int .i64 0, .int .i64 0, .int .i64 0, .int .i64 0, .slice none 0 0] 63); obtain ⟨A4, n4, c4, rfl, hs4, hl4, hB4, ho4, hb4, hR4⟩ := got_new4 hg3 (HR0.out.below hq3 HR0.out.lt); have hq5 := hdr.trans (show Below wr.heap.size wr.drew _ from hb4); obtain ⟨_, z0, z1⟩ := HK.out _ hq5; obtain ⟨m0, m1, m2, m3, m4, mf⟩ := hB4.facts; obtain ⟨hs5, hB5⟩ := MenuBlk.store hR4 rfl X.menu A4 n4 c4; have hG5 := own_gens (own_row ho4 (own_ne ho4 (Nat.lt_of_lt_of_le hMl hSZ)) (mnCells X.menu A4 n4 c4)); have hl5 := hB5.load; have hF5 := below_row (hh.out.bel.trans (hq5.mono hh.out.bel.size)) hb1.size (mnCells X.menu A4 n4 c4); have hrt := right_any hG5 (Nat.le_refl _) HS.out; rw [HR1.out] at hrt)
            | (go_at_call 25; refine (HC.out (wr.drew.alloc (.cells #[.int .i64 0, .int .i64 0, .int .i64 0, .int .i64 0, .slice none 0 0] 63)) hda).mono ?_; rintro e3 w3 ⟨v3, rfl, hg3⟩; have hSZ := hda.size; have hq3 := hda.trans ((show Below (wr.drew.alloc (.cells #[.int .i64 0, .int .i64 0, .int .i64 0, .int .i64 0, .slice none 0 0] 63)).heap.size (wr.drew.alloc (.cells #[.int .i64 0, .int .i64 0, .int .i64 0, .int .i64 0, .slice none 0 0] 63)) w3 from hg3.choose_spec.choose_spec.choose_spec.2.2).mono hda.size); obtain ⟨A4, n4, c4, rfl, hs4, hl4, hB4, ho4, hb4, hR4⟩ := got_old4 hg3 (HR0.out.below hda HR0.out.lt) HZ0.out rfl (Nat.ne_of_lt hMl); have hq5 := hda.trans hb4; obtain ⟨_, z0, z1⟩ := HK.out _ hq5; obtain ⟨m0, m1, m2, m3, m4, mf⟩ := hB4.facts; obtain ⟨hs5, hB5⟩ := MenuBlk.store hR4 rfl X.menu A4 n4 c4; have hG5 := own_gens (own_row ho4 (own_ne ho4 (Nat.lt_of_lt_of_le hMl hSZ)) (mnCells X.menu A4 n4 c4)); have hl5 := hB5.load; have hF5 := below_row (hh.out.bel.trans (hq5.mono hh.out.bel.size)) hb1.size (mnCells X.menu A4 n4 c4); have hrt := right_any hG5 (Nat.le_refl _) HS.out; rw [HR1.out] at hrt))
          all_goals go_wp2_with (first
          | (go_at_call 26; refine hrt.mono ?_; clear hrt; rintro e6 w6 ⟨rfl, hb6⟩; have hB6 := hB5.below hb6 hB5.lt; obtain ⟨r0, r1, r2, r3, r4, rf⟩ := hB6.facts; rw [HL1.out] at r0; have HF := Lib.hid (show Held w _ w1.heap.size X.menu A4 n4 c4 from ⟨HOK1.out, HS.out, hB6, (hG5.below hb6).more hb6.size, hF5.trans (hb6.mono hF5.size)⟩)))
          all_goals exact ⟨⟨k + 1, X.menu, A4, n4, c4, by omega, by omega, by rw [HL1.out], by go_num, HF.out⟩, by simp [intOf]; omega⟩
      · have ke : ((opM M o).err != 0) = true := by simpa using he
        have HZ1 := Lib.hid (HZ.out he)
        clear HZ
        generalize opM M o = X at *
        go_wp2_with (fail)
        go_region_held3 (fun W' => (LoadS 63 (.pointer (some ⟨w1.heap.size, 0, none⟩))).run Tryd.prog W' = .ok (menuV M A2 n2 c2) W' ∧ W'.cell? ⟨b, off + k * 2, none⟩ = some (.int .i64 o.kind) ∧ W'.cell? ⟨b, off + k * 2 + 1, none⟩ = some (.int .i64 o.n)) (exact HK.out _ (by assumption)) (first
          | (go_at_call 25; refine (HC.out wr.drew hdr).mono ?_; rintro e3 w3 ⟨v3, rfl, hg3⟩; have hSZ := hdr.size; have hq3 := hdr.trans (show Below wr.heap.size wr.drew w3 from hg3.choose_spec.choose_spec.choose_spec.2.2); have hq4 := hq3.alloc hq3.size (.cells #[.int .i64 0, .int .i64 0, .int .i64 0, .int .i64 0, .slice none 0 0] 63); obtain ⟨A4, n4, c4, rfl, hs4, hl4, hB4, ho4, hb4, hR4⟩ := got_new4 hg3 (HR0.out.below hq3 HR0.out.lt); have hq5 := hdr.trans (show Below wr.heap.size wr.drew _ from hb4); have hn4 : n4 = 0 := (by have := (own_gens ho4).len; rw [HZ1.out] at this; exact this.symm); subst hn4; obtain ⟨q0, q1, q2, q3, q4, qf⟩ := hB4.facts; replace q0 : _ = some (Value.int .i64 0) := q0.trans (congrArg (fun z : Menu => some (Value.int .i64 z.last)) HZ1.out); have HF := Lib.hid (show Held w _ w1.heap.size M A2 n2 c2 from ⟨hh.out.ok, hh.out.short, hR4, (hh.out.gens.below hq5).more hq5.size, hh.out.bel.trans (hq5.mono hh.out.bel.size)⟩))
          | (go_at_call 25; refine (HC.out (wr.drew.alloc (.cells #[.int .i64 0, .int .i64 0, .int .i64 0, .int .i64 0, .slice none 0 0] 63)) hda).mono ?_; rintro e3 w3 ⟨v3, rfl, hg3⟩; have hSZ := hda.size; have hq3 := hda.trans ((show Below (wr.drew.alloc (.cells #[.int .i64 0, .int .i64 0, .int .i64 0, .int .i64 0, .slice none 0 0] 63)).heap.size (wr.drew.alloc (.cells #[.int .i64 0, .int .i64 0, .int .i64 0, .int .i64 0, .slice none 0 0] 63)) w3 from hg3.choose_spec.choose_spec.choose_spec.2.2).mono hda.size); obtain ⟨A4, n4, c4, rfl, hs4, hl4, hB4, ho4, hb4, hR4⟩ := got_old4 hg3 (HR0.out.below hda HR0.out.lt) HZ0.out rfl (Nat.ne_of_lt hMl); have hq5 := hda.trans hb4; have hn4 : n4 = 0 := (by have := (own_gens ho4).len; rw [HZ1.out] at this; exact this.symm); subst hn4; obtain ⟨q0, q1, q2, q3, q4, qf⟩ := hB4.facts; replace q0 : _ = some (Value.int .i64 0) := q0.trans (congrArg (fun z : Menu => some (Value.int .i64 z.last)) HZ1.out); have HF := Lib.hid (show Held w _ w1.heap.size M A2 n2 c2 from ⟨hh.out.ok, hh.out.short, hR4, (hh.out.gens.below hq5).more hq5.size, hh.out.bel.trans (hq5.mono hh.out.bel.size)⟩)))
        all_goals go_wp2_with (fail)
        all_goals exact ⟨⟨k + 1, M, A2, n2, c2, by omega, by omega, rfl, by go_num, HF.out⟩, by simp [intOf]; omega⟩
    · go_wp2_with (fail)
      all_goals go_ret
      all_goals exact ⟨rfl, hh.out.bel⟩
end

set_option maxRecDepth 100000 in
open Go.ChangeShapes Go.WideShapes in
theorem BootNumbers_walk {H : Type} {enc : TypeId × Value → H} (W : World) (base : Nat) (v0 : Value) (d0 : DataW H) (p0 : List MemPlace)
    (o0 : Value.okWide Tryd.prog W .any base 60 v0)
    (h0 : DataW.Trod enc Tryd.prog W 0 (fun _ => true) true 60 v0 d0 p0)
    (hsz : (DataW.weightsEach Tryd.prog [60] [d0]).all (· ≤ reachBytes) = true) :
    Calls Tryd.prog 6 #[v0] W fun e w' => e = .returned (.bool true) ∧ Below W.heap.size W w' := by
  obtain ⟨A, n, c, l, rfl, hl, hS, hok⟩ := open_mops o0 h0
  exact numbers_any hS hl hok
end Go.Proofs.YtdhlklidenfbeaaDoor
