/- The walk of BootTrial. -/
import Derived.Test.YtdhlklidenfbeaaDoorLaw22T
import Derived.Test.YtdhlklidenfbeaaDoorLaw22C
import Derived.Test.YtdhlklidenfbeaaDoorLaw22O
namespace Go.Proofs.YtdhlklidenfbeaaDoor
open Go.RowKit Go.Sort
set_option linter.unusedVariables false
set_option linter.unusedSimpArgs false

def Short (m : Menu) : Prop := ∀ g ∈ m.gens, g.path.length ≤ 1000000000
theorem zeroM_short : Short zeroM := fun g hg => by simp [zeroM] at hg
theorem MenuOk.n16 {m : Menu} (h : MenuOk m) {w : World} {B : Nat} {A : Option Addr} {n c : Nat} (hg : GensAt w B A n c m.gens) : n ≤ 1000000000 := by
  have := h.head.2.2
  have := hg.len
  omega
/-- A menu that the law holds in a variable. -/
structure Held (w wr : World) (g : Nat) (M : Menu) (A : Option Addr) (n c : Nat) : Prop where
  ok : MenuOk M
  short : Short M
  blk : MenuBlk wr g M A n c
  gens : GensAt wr wr.heap.size A n c M.gens
  bel : Below w.heap.size w wr

section
attribute [local go_sem ↓] load_menu_mark store_menu_mark
set_option maxRecDepth 100000 in
set_option maxHeartbeats 4000000 in
theorem trial_any {w : World} {A : Option Addr} {n c : Nat} {l : List MOp} (h : Slc w w.heap.size 2 A n c (l.flatMap mopCells)) (hl : l.length = n) (hop : ∀ o ∈ l, MOpOk o) (num : Int) :
    Calls Tryd.prog 7 #[.slice A n c, .int .i64 num] w fun e w' => e = .returned (.bool true) ∧ Below w.heap.size w w' := by
  have hs := shown_any w
  have hn62 : n ≤ 9223372036854775807 := by have := h.le; have := h.cmax; unfold maxLen at this; omega
  have H := Lib.hid h
  have HL := Lib.hid hl
  have HOP := Lib.hid hop
  clear h hl hop
  go_enter Tryd.func7, Tryd.ntmps7
  go_wp2_with (go_at_call 24; refine hs.mono ?_; clear hs; rintro e1 w1 ⟨rfl, hb1⟩; obtain ⟨hs1, hB1, hn1⟩ := new_zero w1)
  go_loopw [7] (fun i wr => ∃ (k : Nat) (M : Menu) (A2 : Option Addr) (n2 c2 : Nat), k ≤ 60 ∧ k ≤ n ∧ i = .int .i64 (k : Int) ∧ Aside (Held w wr w1.heap.size M A2 n2 c2)) (fun i _ => 60 - (intOf i).toNat)
  case atStart => exact ⟨0, zeroM, none, 0, 0, Nat.zero_le _, Nat.zero_le _, rfl, (menuB_iff _).1 zeroM_ok, zeroM_short, hB1, gens_nil _ _, hb1.trans (hn1.mono hb1.size)⟩
  case round =>
    obtain ⟨k, M, A2, n2, c2, hk60, hkn, rfl, hh⟩ := hrel
    have hMl := hh.out.blk.lt
    by_cases hlt : k < n ∧ k < 60
    · obtain ⟨hlt1, hlt2⟩ := hlt
      obtain ⟨b, off, rfl, hbB, hl', d0, d1⟩ := mop_cells (H.out.below hh.out.bel) HL.out hlt1
      have hbl : b < wr.heap.size := Nat.lt_of_lt_of_le hbB hh.out.bel.size
      have HOK := Lib.hid (HOP.out _ (List.getElem_mem hl'))
      generalize l[k] = o at *
      have hdr : Below wr.heap.size wr wr.drew := (Below.refl wr.heap.size wr).drew
      have hda : Below wr.heap.size wr (wr.drew.alloc (.cells #[.int .i64 0, .int .i64 0, .int .i64 0, .int .i64 0, .slice none 0 0] 63)) := hdr.alloc (Nat.le_refl _) _
      have HK := Lib.hid (fun (W' : World) (hw : Below wr.heap.size wr W') => show (LoadS 63 (.pointer (some ⟨w1.heap.size, 0, none⟩))).run Tryd.prog W' = .ok (menuV M A2 n2 c2) W' ∧ W'.cell? ⟨b, off + k * 2, none⟩ = some (.int .i64 o.kind) ∧ W'.cell? ⟨b, off + k * 2 + 1, none⟩ = some (.int .i64 o.n) from
        ⟨(hh.out.blk.below hw hMl).load, (hw.cell (p := ⟨b, off + k * 2, none⟩) hbl).trans d0, (hw.cell (p := ⟨b, off + k * 2 + 1, none⟩) hbl).trans d1⟩)
      have HC := Lib.hid (fun (W' : World) (hw : Below wr.heap.size wr W') => change_any (hh.out.gens.below hw) hw.size hh.out.short (hh.out.ok.n16 hh.out.gens) o HOK.out.n)
      have HX := Lib.hid (fun he => (opM_ok (o := o) hh.out.ok he).1)
      have HS := Lib.hid (opM_short M o hh.out.short)
      have hR0 : Blk wr w1.heap.size 63 (mnCells M A2 n2 c2) := hh.out.blk
      have HR0 := Lib.hid hR0
      have HZ0 := Lib.hid (show Blk (wr.drew.alloc (.cells #[.int .i64 0, .int .i64 0, .int .i64 0, .int .i64 0, .slice none 0 0] 63)) wr.heap.size 63 #[.int .i64 0, .int .i64 0, .int .i64 0, .int .i64 0, .slice none 0 0] from Blk.new wr.drew 63 #[.int .i64 0, .int .i64 0, .int .i64 0, .int .i64 0, .slice none 0 0])
      clear hR0
      by_cases he : (opM M o).err = 0
      · have ke : ((opM M o).err == 0) = true := by simpa using he
        generalize opM M o = X at *
        go_wp2_with (fail)
        go_region_held3 (fun W' => (LoadS 63 (.pointer (some ⟨w1.heap.size, 0, none⟩))).run Tryd.prog W' = .ok (menuV M A2 n2 c2) W' ∧ W'.cell? ⟨b, off + k * 2, none⟩ = some (.int .i64 o.kind) ∧ W'.cell? ⟨b, off + k * 2 + 1, none⟩ = some (.int .i64 o.n)) (exact HK.out _ (by assumption)) (first
          | (go_at_call 25; refine (HC.out wr.drew hdr).mono ?_; rintro e3 w3 ⟨v3, rfl, hg3⟩; have hSZ := hdr.size; have hq3 := hdr.trans (show Below wr.heap.size wr.drew w3 from hg3.choose_spec.choose_spec.choose_spec.2.2); have hq4 := hq3.alloc hq3.size (.cells #[.int .i64 0, .int .i64 0, .int .i64 0, .int .i64 0, .slice none 0 0] 63); obtain ⟨A4, n4, c4, rfl, hs4, hl4, hB4, ho4, hb4, hR4⟩ := got_new4 hg3 (HR0.out.below hq3 HR0.out.lt); have hq5 := hdr.trans (show Below wr.heap.size wr.drew _ from hb4); obtain ⟨hs5, hB5⟩ := MenuBlk.store hR4 rfl X.menu A4 n4 c4; have HF := Lib.hid (show Held w _ w1.heap.size X.menu A4 n4 c4 from ⟨HX.out he, HS.out, hB5, own_gens (own_row ho4 (own_ne ho4 (Nat.lt_of_lt_of_le hMl hSZ)) _), below_row (hh.out.bel.trans (hq5.mono hh.out.bel.size)) hb1.size _⟩))
          | (go_at_call 25; refine (HC.out (wr.drew.alloc (.cells #[.int .i64 0, .int .i64 0, .int .i64 0, .int .i64 0, .slice none 0 0] 63)) hda).mono ?_; rintro e3 w3 ⟨v3, rfl, hg3⟩; have hSZ := hda.size; have hq3 := hda.trans ((show Below (wr.drew.alloc (.cells #[.int .i64 0, .int .i64 0, .int .i64 0, .int .i64 0, .slice none 0 0] 63)).heap.size (wr.drew.alloc (.cells #[.int .i64 0, .int .i64 0, .int .i64 0, .int .i64 0, .slice none 0 0] 63)) w3 from hg3.choose_spec.choose_spec.choose_spec.2.2).mono hda.size); obtain ⟨A4, n4, c4, rfl, hs4, hl4, hB4, ho4, hb4, hR4⟩ := got_old4 hg3 (HR0.out.below hda HR0.out.lt) HZ0.out rfl (Nat.ne_of_lt hMl); have hq5 := hda.trans hb4; obtain ⟨hs5, hB5⟩ := MenuBlk.store hR4 rfl X.menu A4 n4 c4; have HF := Lib.hid (show Held w _ w1.heap.size X.menu A4 n4 c4 from ⟨HX.out he, HS.out, hB5, own_gens (own_row ho4 (own_ne ho4 (Nat.lt_of_lt_of_le hMl hSZ)) _), below_row (hh.out.bel.trans (hq5.mono hh.out.bel.size)) hb1.size _⟩)))
        all_goals go_wp2_with (fail)
        all_goals exact ⟨⟨k + 1, X.menu, A4, n4, c4, by omega, by omega, by go_num, HF.out⟩, by simp [intOf]; omega⟩
      · have ke : ((opM M o).err == 0) = false := by simpa using he
        generalize opM M o = X at *
        go_wp2_with (fail)
        go_region_held3 (fun W' => (LoadS 63 (.pointer (some ⟨w1.heap.size, 0, none⟩))).run Tryd.prog W' = .ok (menuV M A2 n2 c2) W' ∧ W'.cell? ⟨b, off + k * 2, none⟩ = some (.int .i64 o.kind) ∧ W'.cell? ⟨b, off + k * 2 + 1, none⟩ = some (.int .i64 o.n)) (exact HK.out _ (by assumption)) (first
          | (go_at_call 25; refine (HC.out wr.drew hdr).mono ?_; rintro e3 w3 ⟨v3, rfl, hg3⟩; have hSZ := hdr.size; have hq3 := hdr.trans (show Below wr.heap.size wr.drew w3 from hg3.choose_spec.choose_spec.choose_spec.2.2); have hq4 := hq3.alloc hq3.size (.cells #[.int .i64 0, .int .i64 0, .int .i64 0, .int .i64 0, .slice none 0 0] 63); obtain ⟨A4, n4, c4, rfl, hs4, hl4, hB4, ho4, hb4, hR4⟩ := got_new4 hg3 (HR0.out.below hq3 HR0.out.lt); have hq5 := hdr.trans (show Below wr.heap.size wr.drew _ from hb4); have HF := Lib.hid (show Held w _ w1.heap.size M A2 n2 c2 from ⟨hh.out.ok, hh.out.short, hR4, (hh.out.gens.below hq5).more hq5.size, hh.out.bel.trans (hq5.mono hh.out.bel.size)⟩))
          | (go_at_call 25; refine (HC.out (wr.drew.alloc (.cells #[.int .i64 0, .int .i64 0, .int .i64 0, .int .i64 0, .slice none 0 0] 63)) hda).mono ?_; rintro e3 w3 ⟨v3, rfl, hg3⟩; have hSZ := hda.size; have hq3 := hda.trans ((show Below (wr.drew.alloc (.cells #[.int .i64 0, .int .i64 0, .int .i64 0, .int .i64 0, .slice none 0 0] 63)).heap.size (wr.drew.alloc (.cells #[.int .i64 0, .int .i64 0, .int .i64 0, .int .i64 0, .slice none 0 0] 63)) w3 from hg3.choose_spec.choose_spec.choose_spec.2.2).mono hda.size); obtain ⟨A4, n4, c4, rfl, hs4, hl4, hB4, ho4, hb4, hR4⟩ := got_old4 hg3 (HR0.out.below hda HR0.out.lt) HZ0.out rfl (Nat.ne_of_lt hMl); have hq5 := hda.trans hb4; have HF := Lib.hid (show Held w _ w1.heap.size M A2 n2 c2 from ⟨hh.out.ok, hh.out.short, hR4, (hh.out.gens.below hq5).more hq5.size, hh.out.bel.trans (hq5.mono hh.out.bel.size)⟩)))
        all_goals go_wp2_with (fail)
        all_goals exact ⟨⟨k + 1, M, A2, n2, c2, by omega, by omega, by go_num, HF.out⟩, by simp [intOf]; omega⟩
    · clear hMl
      have hnx := next_any hh.out.gens (Nat.le_refl _) hh.out.short (hh.out.ok.n16 hh.out.gens) num
      obtain ⟨tp1, tp2⟩ := trial_plain (n := num) hh.out.ok
      have hl2 := hh.out.blk.load
      by_cases he : (nextM M num).err = 0
      case neg =>
        rw [tp1 he] at hnx
        clear tp1 tp2 he
        generalize (nextM M num).menu = X at *
        go_wp2_with (go_at_call 27; refine hnx.mono ?_; clear hnx; rintro e3 w3 ⟨v3, rfl, hg3⟩; obtain ⟨A4, n4, c4, rfl, hs4, hl4, hB4, hG4, hb4⟩ := got_set hg3 hh.out.blk rfl)
        all_goals go_ret
        all_goals exact ⟨rfl, hh.out.bel.trans (hb4.mono hb1.size)⟩
      case pos =>
        obtain ⟨t0, t1, t2, t3, t4, t5, t6, t7, t8, t9, t10⟩ := tp2 he _ rfl
        rw [he] at hnx
        have hX0 := (nextM_ok he).2.2.2
        have hX1 : Short (nextM M num).menu := by
          have := opM_short M ⟨3, num⟩ hh.out.short
          exact this
        have HX := Lib.hid (And.intro hX0 hX1)
        have T := Lib.hid (And.intro t0 (And.intro t1 (And.intro t2 (And.intro t3 (And.intro t4 (And.intro t5 (And.intro t6 (And.intro t7 (And.intro t8 (And.intro t9 t10))))))))))
        clear tp1 tp2 he hX0 hX1 t0 t1 t2 t3 t4 t5 t6 t7 t8 t9 t10
        generalize (nextM M num).menu = X at *
        have HSa := Lib.hid (show Short (loadM X) by unfold Short; rw [(loadM_last X).2.1]; exact HX.out.2)
        have HOa := Lib.hid (loadM_ok HX.out.1)
        have HOb := Lib.hid (loadM_ok HOa.out)
        have HOc := Lib.hid ((defaultM_ok T.out.2.2.2.2.2.2.2.1).2.2.2)
        go_wp2_with (first
          | (go_at_call 27; refine hnx.mono ?_; clear hnx; rintro e3 w3 ⟨v3, rfl, hg3⟩; have hz3 := hg3.choose_spec.choose_spec.choose_spec.2.2.size; obtain ⟨A3, n3, c3, rfl, hs3, hl3, hB3, hG3, hb3⟩ := got_set hg3 hh.out.blk rfl; have hla := load_any hG3 (Nat.le_refl _) (HX.out.1.n16 hG3); rw [T.out.1, T.out.2.1] at hla)
          | (go_at_call 28; refine hla.mono ?_; clear hla; rintro e4 w4 ⟨v4, rfl, hg4⟩; obtain ⟨A4, n4, c4, rfl, hs4, hl4, hB4, hG4, hb4⟩ := got_new hg4; have hlb := load_any hG4 (by simp [World.setRow]) (HOa.out.n16 hG4); rw [T.out.2.2.2.2.1, T.out.2.2.2.2.2.1] at hlb; have pB3 := hB3.below hb4 hB3.lt; clear hg4)
          | (go_at_call 28; refine hlb.mono ?_; clear hlb; rintro e5 w5 ⟨v5, rfl, hg5⟩; obtain ⟨A5, n5, c5, rfl, hs5, hl5, hB5, hG5, hb5⟩ := got_new hg5; have pB4 := hB4.below hb5 hB4.lt; have qB3 := pB3.below hb5 pB3.lt; have pl4 := pB4.load; have hdf := default_any ((hG4.more (by simp [World.setRow])).below hb5) hb5.size HSa.out (HOa.out.n16 hG4) num; rw [T.out.2.2.2.2.2.2.2.1] at hdf; clear hg5)
          | (go_at_call 29; refine hdf.mono ?_; clear hdf; rintro e6 w6 ⟨v6, rfl, hg6⟩; obtain ⟨A6, n6, c6, rfl, hs6, hl6, hB6, hG6, hb6⟩ := got_new hg6; have hlc := load_any hG6 (by simp [World.setRow]) (HOc.out.n16 hG6); rw [T.out.2.2.2.2.2.2.2.2.1, T.out.2.2.2.2.2.2.2.2.2.1] at hlc; have pB5 := hB5.below hb6 hB5.lt; have qB4 := pB4.below hb6 pB4.lt; have rB3 := qB3.below hb6 qB3.lt; clear hg6)
          | (go_at_call 28; refine hlc.mono ?_; clear hlc; rintro e7 w7 ⟨v7, rfl, hg7⟩; obtain ⟨A7, n7, c7, rfl, hs7, hl7, hB7, hG7, hb7⟩ := got_new hg7; obtain ⟨a0, a1, a2, a3, a4, af⟩ := (qB4.below hb7 qB4.lt).facts; obtain ⟨m0, m1, m2, m3, m4, mf⟩ := (rB3.below hb7 rB3.lt).facts; obtain ⟨b0, b1, b2, b3, b4, bf⟩ := (pB5.below hb7 pB5.lt).facts; obtain ⟨d0, d1, d2, d3, d4, df⟩ := hB7.facts; rw [T.out.2.2.1] at a3; rw [T.out.2.2.2.1] at a2; rw [T.out.2.2.2.2.2.2.1] at b3; rw [T.out.2.2.2.2.2.2.2.2.2.2] at d1; clear hg7))
        all_goals go_ret
        all_goals
          have k3 := hh.out.bel.trans (hb3.mono hb1.size)
          have k4 := k3.trans (hb4.mono k3.size)
          have k5 := k4.trans (hb5.mono k4.size)
          have k6 := k5.trans (hb6.mono k5.size)
          exact ⟨rfl, k6.trans (hb7.mono k6.size)⟩
end

set_option maxRecDepth 100000 in
open Go.ChangeShapes Go.WideShapes in
theorem BootTrial_walk {H : Type} {enc : TypeId × Value → H} (W : World) (base : Nat) (v0 v1 : Value) (d0 d1 : DataW H) (p0 p1 : List MemPlace)
    (o0 : Value.okWide Tryd.prog W .any base 60 v0) (o1 : Value.okWide Tryd.prog W .any base 3 v1)
    (h0 : DataW.Trod enc Tryd.prog W 0 (fun _ => true) true 60 v0 d0 p0) (h1 : DataW.Trod enc Tryd.prog W 0 (fun _ => true) true 3 v1 d1 p1)
    (hsz : (DataW.weightsEach Tryd.prog [60, 3] [d0, d1]).all (· ≤ reachBytes) = true) :
    Calls Tryd.prog 7 #[v0, v1] W fun e w' => e = .returned (.bool true) ∧ Below W.heap.size W w' := by
  obtain ⟨A, n, c, l, rfl, hl, hS, hok⟩ := open_mops o0 h0
  obtain ⟨x, rfl, rfl, rfl, wx⟩ := open_int Tryd.underlying3 o1 h1
  exact trial_any hS hl hok x
end Go.Proofs.YtdhlklidenfbeaaDoor
