/- The walk of copied (bootjacklaw08). -/
import Derived.Test.YtdhlklidenfbeaaDoorEnts
import Derived.Test.YtdhlklidenfbeaaDoorMarks
namespace Go.Proofs.YtdhlklidenfbeaaDoor
open Go.RowKit Go.Shelf
set_option linter.unusedVariables false
set_option linter.unusedSimpArgs false

theorem make_ents_mark (n c : Value) : Instr.makeSlice 28 n c = MakeS 28 n c := rfl
theorem make_ents (W : World) (base N : Nat) (hN : N ≤ 100000000) (hb : base ≤ W.heap.size) : ∃ w', Sem.run Tryd.prog (MakeS 28 (.int .i64 0) (.int .i64 (N : Int))) W = .ok (.slice (some ⟨W.heap.size, 0, none⟩) 0 N) w' ∧ w'.ownsRow base 44 3 (.slice (some ⟨W.heap.size, 0, none⟩) 0 N) 0 [] ∧ W.grownBy w' none := by
  obtain ⟨i, hi, hz, hs, hby⟩ := info_parts ent_info
  exact run_make_own (P := Tryd.prog) W base 28 44 i _ 3 Tryd.underlying28 hi hz hs .i64 .i64 N (by rw [hby]; omega) (by unfold maxLen; omega) hb

/-- One round of copied: the bytes are copied, the entry is put behind. -/
structure CopyStep (wr : World) (base : Nat) (A' : Option Addr) (k c' : Nat) (es : List EV) (e : EV) (W2 w3 : World) (g3 : Nat) (c3 : Nat) (A6 : Option Addr) (c6 : Nat) (w6 : World) : Prop where
  r3 : (Builtin.append_ #[42, 42] 42 #[.slice (some ⟨wr.heap.size + 1, 0, none⟩) 0 0, .slice e.A e.n e.c]).run Tryd.prog ((wr.alloc (.cells #[.string ⟨e.path.toArray⟩, .int .i64 e.kind, .slice e.A e.n e.c] 44)).alloc (.cells #[] 5)) = .ok (.slice (some ⟨g3, 0, none⟩) e.n c3) w3
  blk : Blk w3 wr.heap.size 44 #[.string ⟨e.path.toArray⟩, .int .i64 e.kind, .slice e.A e.n e.c]
  r6 : (Builtin.append_ #[28, 28] 28 #[.slice A' k c', .slice (some ⟨w3.heap.size, 0, none⟩) 1 1]).run Tryd.prog ((w3.setCell ⟨wr.heap.size, 2, none⟩ (.slice (some ⟨g3, 0, none⟩) e.n c3)).alloc (.cells #[.string ⟨e.path.toArray⟩, .int .i64 e.kind, .slice (some ⟨g3, 0, none⟩) e.n c3] 44)) = .ok (.slice A6 (k + 1) c6) w6
  own : OwnEnts w6 base (.slice A6 (k + 1) c6) (k + 1) (es ++ [⟨e.path, e.kind, e.data, some ⟨g3, 0, none⟩, e.n, c3⟩])
set_option maxRecDepth 100000 in
theorem copy_step {w wr : World} {A' : Option Addr} {k c' : Nat} {es : List EV} {B : Nat} (h : OwnEnts wr w.heap.size (.slice A' k c') k es) (hb : Below w.heap.size w wr) (e : EV) (hS : Slc wr B 1 e.A e.n e.c (e.data.map bv)) (hB : B ≤ wr.heap.size) (hk : k ≤ 1000000000) (hn : e.n ≤ 1000000000) :
    ∃ W2 w3 g3 c3 A6 c6 w6, CopyStep wr w.heap.size A' k c' es e W2 w3 g3 c3 A6 c6 w6 ∧ Below w.heap.size w w6 := by
  obtain ⟨W1, hW1⟩ : ∃ W1, W1 = wr.alloc (.cells #[.string ⟨e.path.toArray⟩, .int .i64 e.kind, .slice e.A e.n e.c] 44) := ⟨_, rfl⟩
  have hb1 : Below wr.heap.size wr W1 := by rw [hW1]; exact (Below.refl _ wr).alloc (Nat.le_refl _) _
  have hz1 : W1.heap.size = wr.heap.size + 1 := by rw [hW1]; simp
  have hG1 : Blk W1 wr.heap.size 44 #[.string ⟨e.path.toArray⟩, .int .i64 e.kind, .slice e.A e.n e.c] := by rw [hW1]; exact Blk.new _ _ _
  have ho2 := empty_own W1 W1.heap.size (Nat.le_refl _)
  have hb2 : Below W1.heap.size W1 (W1.alloc (.cells #[] 5)) := (Below.refl _ W1).alloc (Nat.le_refl _) _
  obtain ⟨A3, c3, w3, r3, o3, g3, hv3⟩ := append_bytes (W1.alloc (.cells #[] 5)) W1.heap.size _ 0 [] ho2 B e.A e.n e.c e.data ((hS.below (hb1.mono hB)).below (hb2.mono (by rw [hz1]; omega))) (by omega) (by simp)
  rw [Nat.zero_add] at r3 o3
  rw [List.nil_append] at o3
  have hb3 := grown_below hb2 ho2 (by simp) g3
  -- the new bytes lie in a block of their own
  obtain ⟨gd, hA3, hgd, hgd2⟩ : ∃ gd, A3 = some ⟨gd, 0, none⟩ ∧ W1.heap.size ≤ gd ∧ gd < w3.heap.size := by
    rcases o3.2 with ⟨hnil, h0⟩ | ⟨gd, cap, cur, e1, e2, e3, _⟩
    · exfalso
      injection hnil with e1 e2 e3
      subst e1
      rcases hv3 with hv3 | hv3 <;> simp [Value.ownBlock] at hv3
    · injection e1 with e1
      exact ⟨gd, e1, e2, (Array.getElem?_eq_some_iff.1 e3).1⟩
  subst hA3
  have hG3 := hG1.below hb3 hG1.lt
  have hS3 := own_slc_of o3
  have hbw3 : Below wr.heap.size wr w3 := hb1.trans (hb3.mono (by rw [hz1]; omega))
  have h3 := h.below hbw3
  have hob : (Value.slice A' k c').ownBlock ≠ some wr.heap.size := fun e => Nat.lt_irrefl _ (h.own.lt _ e).2
  have hog : (Value.slice A' k c').ownBlock ≠ some gd := fun e => by have := (h.own.lt _ e).2; omega
  have h4 : OwnEnts (w3.setCell ⟨wr.heap.size, 2, none⟩ (.slice (some ⟨gd, 0, none⟩) e.n c3)) w.heap.size (.slice A' k c') k es :=
    h3.set_ (by simpa using hob) (fun x hx g hg => by
      obtain ⟨g', h1, _, h5, _⟩ := h.data x hx
      rw [hg] at h1
      injection h1 with h1
      injection h1 with h1
      simp only
      omega) _
  have hsz4 : (w3.setCell ⟨wr.heap.size, 2, none⟩ (.slice (some ⟨gd, 0, none⟩) e.n c3)).heap.size = w3.heap.size := by simp [World.setCell]
  have hS4 : Slc (w3.setCell ⟨wr.heap.size, 2, none⟩ (.slice (some ⟨gd, 0, none⟩) e.n c3)) w3.heap.size 1 (some ⟨gd, 0, none⟩) e.n c3 (e.data.map bv) := by
    refine ⟨hS3.len, hS3.le, hS3.cmax, fun hn => ?_⟩
    obtain ⟨b, off, e1, hb, hc⟩ := hS3.at_ hn
    refine ⟨b, off, e1, hb, fun j u hu => ?_⟩
    injection e1 with e1
    injection e1 with e1
    rw [World.cell?_of_block (w := w3) (a := ⟨b, off + j, none⟩) (Below.heap_setCell w3 _ _ b (by simp only; omega))]
    exact hc j u hu
  have hbw4 : Below w.heap.size w (w3.setCell ⟨wr.heap.size, 2, none⟩ (.slice (some ⟨gd, 0, none⟩) e.n c3)) := (hb.trans (hbw3.mono hb.size)).setCell (p := ⟨wr.heap.size, 2, none⟩) hb.size _
  obtain ⟨A6, c6, w6, r6, o6, g6, _⟩ := h4.append ⟨e.path, e.kind, e.data, some ⟨gd, 0, none⟩, e.n, c3⟩ (by rw [hsz4]; exact hS4) ⟨gd, rfl, by have := hb.size; omega, by rw [hsz4]; exact hgd2, hog⟩ hk (by rw [hsz4]; exact Nat.le_trans hb.size hbw3.size)
  rw [hsz4] at r6
  refine ⟨W1, w3, gd, c3, A6, c6, w6, ⟨by rw [hW1, World.size_alloc] at r3; exact r3, hG3, r6, o6⟩, ?_⟩
  exact grown_below (hbw4.alloc hbw4.size _) (h4.own.alloc _) (by have := hbw4.size; simp; omega) g6

section
attribute [local go_sem ↓] make_ents_mark
set_option maxRecDepth 100000 in
set_option maxHeartbeats 2000000 in
theorem copied08_any {w : World} {B : Nat} {A : Option Addr} {n c : Nat} {es : List EV} (h : EntsAt w B A n c es) (hB : B ≤ w.heap.size) (hn : n ≤ 10000000) (hd : ∀ e ∈ es, e.data.length ≤ 1000000000) :
    Calls Tryd.prog 45 #[.slice A n c] w fun e w' => ∃ A' c' es', e = .returned (.slice A' n c') ∧ OwnEnts w' w.heap.size (.slice A' n c') n es' ∧ es'.map EV.ent = es.map EV.ent ∧ Below w.heap.size w w' := by
  obtain ⟨w1, hm, ho1, hg1⟩ := make_ents w w.heap.size (n + 1) (by omega) (Nat.le_refl _)
  rw [show ((n + 1 : Nat) : Int) = (n : Int) + 1 by omega] at hm
  have hb1 : Below w.heap.size w w1 := (Below.refl _ w).grown hg1 (Nat.le_refl _) (fun q hq => by cases hq)
  have H := Lib.hid h
  have HD := Lib.hid hd
  have HL := Lib.hid h.len
  have HO1 := Lib.hid (show OwnEnts w1 w.heap.size (.slice (some ⟨w.heap.size, 0, none⟩) 0 (n + 1)) 0 [] from ⟨ho1, (fun e he => by cases he), (fun e he => by cases he)⟩)
  have HB1 := Lib.hid hb1
  clear h hd ho1 hg1 hb1
  go_enter Tryd.func45, Tryd.ntmps45
  go_wp2_with (fail)
  go_loopw [3, 4] (fun o i wr => ∃ (k : Nat) (A' : Option Addr) (c' : Nat) (es' : List EV), k ≤ n ∧ i = .int .i64 (k : Int) ∧ o = .slice A' k c' ∧ Aside (OwnEnts wr w.heap.size (.slice A' k c') k es') ∧ Aside (es'.map EV.ent = (es.take k).map EV.ent) ∧ Aside (Below w.heap.size w wr)) (fun _ i _ => n - (intOf i).toNat)
  case atStart => exact ⟨0, _, _, [], Nat.zero_le _, rfl, rfl, HO1.out, rfl, HB1.out⟩
  case round =>
    obtain ⟨k, A', c', es', hk, rfl, rfl, ho, hmap, hb⟩ := hrel
    by_cases hlt : k < n
    · obtain ⟨b, off, rfl, hbB, hl, c0, c1, c2, hS⟩ := (H.out.below (hb.out.mono hB)).at_ hlt
      have hdl := HD.out _ (List.getElem_mem hl)
      have HM := Lib.hid (show (es.take (k + 1)).map EV.ent = (es.take k).map EV.ent ++ [es[k].ent] by rw [List.take_succ_eq_append_getElem hl, List.map_append]; rfl)
      generalize es[k] = e at *
      have hen : e.n ≤ 1000000000 := by have := hS.len; rw [List.length_map] at this; omega
      obtain ⟨W2, w3, g3, c3, A6, c6, w6, S, hb6⟩ := copy_step ho.out hb.out e hS (Nat.le_trans hB hb.out.size) (by omega) hen
      have HR3 := Lib.hid S.r3
      have HR6 := Lib.hid S.r6
      have HO6 := Lib.hid S.own
      have HB6 := Lib.hid hb6
      have x0 := S.blk.cell 0
      have x1 := S.blk.cell 1
      have x2 := S.blk.cell 2
      have f2 := S.blk.frozen 2
      simp only [List.getElem?_toArray, List.getElem?_cons_zero, List.getElem?_cons_succ] at x0 x1 x2
      have hB2 := S.blk.set_ 2 (.slice (some ⟨g3, 0, none⟩) e.n c3)
      have y0 := hB2.cell 0
      have y1 := hB2.cell 1
      have y2 := hB2.cell 2
      simp only [List.setIfInBounds_toArray, List.set_cons_zero, List.set_cons_succ, List.getElem?_toArray, List.getElem?_cons_zero, List.getElem?_cons_succ] at y0 y1 y2
      clear S hS hb6 hB2 hdl
      go_wp2_with (first
        | (at_builtin; refine wpList_append_run rfl _ _ _ rfl rfl rfl HR3.out ?_; clear HR3)
        | (at_builtin; refine wpList_append_run rfl _ _ _ rfl rfl rfl HR6.out ?_; clear HR6))
      exact ⟨⟨k + 1, A6, c6, _, by omega, by go_num, rfl, HO6.out, by rw [HM.out, List.map_append, hmap.out]; rfl, HB6.out⟩, by simp [intOf]; omega⟩
    · obtain rfl : k = n := by omega
      have HT := Lib.hid (show es'.map EV.ent = es.map EV.ent by rw [hmap.out, List.take_of_length_le (by have := HL.out; omega)])
      go_wp2_with (fail)
      go_ret
      exact ⟨A', c', es', rfl, ho.out, HT.out, hb.out⟩
end
end Go.Proofs.YtdhlklidenfbeaaDoor
