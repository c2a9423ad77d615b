/- bootjackref21.lines: a unit's lines, as the document's answer has them; bootjacklaw21.copied. bootjackref21.laid: a system's entries, as the document's answer has them. The reference of layer 20: May. -/
import Derived.Test.YtibndaianhlcaaaGreatDoorPart18
import Derived.Test.YtibndaianhlcaaaGreatDoorPart11
import Derived.Deep.RegionLaw
import Derived.Test.YtibndaianhlcaaaGreatDoorPart17
import Derived.Test.YtibndaianhlcaaaGreatDoorPart27
namespace Go.Proofs.YtibndaianhlcaaaGreatDoor
open Go.RowKit Go.Sort Go.Shelf
open Go.WideShapes (bytes_inj)
set_option linter.unusedVariables false
set_option linter.unusedSimpArgs false

set_option maxRecDepth 100000 in
set_option maxHeartbeats 1000000 in
theorem lines21_any {w : World} {B : Nat} (u : SV) (h1 : Slc w B 1 u.A u.n u.c (u.req.map encStr)) (h2 : Slc w B 1 u.A2 u.n2 u.c2 (u.aft.map encStr)) (hB : B ≤ w.heap.size) (hs : SmallU u) :
    Calls Tryz.prog 77 #[.agg (svArr u)] w fun e w' => e = .returned (.string ⟨(linesU u.srv).toArray⟩) ∧ Below w.heap.size w w' := by
  obtain ⟨nm, st, rq, A, n, c, af, A2, n2, c2⟩ := u
  simp only at h1 h2
  have hb1 : Below w.heap.size w (w.alloc (.cells (svArr ⟨nm, st, rq, A, n, c, af, A2, n2, c2⟩) 59)) := (Below.refl _ w).alloc (Nat.le_refl _) _
  have H1 := Lib.hid h1
  have H2 := Lib.hid h2
  have HS := Lib.hid hs
  have HB1 := Lib.hid hb1
  have hst : st.length ≤ 1048576 := hs.start
  have hn : n ≤ 1048576 := hs.n
  have hn2 : n2 ≤ 1048576 := hs.n2
  have hl1 : rq.length = n := by have := h1.len; simpa using this
  have hl2 : af.length = n2 := by have := h2.len; simpa using this
  have HL1 := Lib.hid hl1
  have HL2 := Lib.hid hl2
  have q1 : ¬ 9223372036854775807 < 4 + st.length := by omega
  have q2 : ¬ 9223372036854775807 < 4 + st.length + 1 := by omega
  have HW1 := Lib.hid (fun k => linesW_lim (p := [114, 101, 113, 117, 105, 114, 101, 115, 32]) (by decide) (l := rq) (by omega) (fun t h => hs.texts t (List.mem_append.2 (.inl h))) k)
  have HW2 := Lib.hid (fun k => linesW_lim (p := [97, 102, 116, 101, 114, 32]) (by decide) (l := af) (by omega) (fun t h => hs.texts t (List.mem_append.2 (.inr h))) k)
  show Calls _ _ _ _ fun e w' => e = .returned (.string ⟨(linesU ⟨nm, st, rq, af⟩).toArray⟩) ∧ Below w.heap.size w w'
  rw [linesU_eq]
  unfold svArr
  clear h1 h2 hs hb1 hl1 hl2
  go_enter Tryz.func77, Tryz.ntmps77
  go_wp2_with (fail)
  go_loopw [3, 4] (fun s i wr => ∃ (k : Nat) (bb : ByteArray), k ≤ n ∧ i = .int .i64 (k : Int) ∧ s = .string bb ∧ Aside (bb.data.toList = ([114, 117, 110, 32] ++ st ++ [10]) ++ linesW [114, 101, 113, 117, 105, 114, 101, 115, 32] (rq.take k)) ∧ Aside (Blk wr w.heap.size 59 #[.string ⟨nm.toArray⟩, .string ⟨st.toArray⟩, .slice A n c, .slice A2 n2 c2]) ∧ Aside (Below w.heap.size w wr)) (fun _ i _ => n - (intOf i).toNat)
  case atStart => exact ⟨0, _, Nat.zero_le _, rfl, rfl, (show (_ : Txt) = _ by simp [linesW]), Blk.new _ _ _, HB1.out⟩
  case round =>
    obtain ⟨k, bb, hk, rfl, rfl, hbb, hG, hb⟩ := hrel
    have hbs : bb.size ≤ 1200000000000 := by
      have h9 := congrArg List.length hbb.out
      have h8 := HW1.out k
      rw [bsz_list, List.length_append] at h9
      simp only [List.length_append, List.length_cons, List.length_nil] at h9
      omega
    have g2 := hG.out.cell 2
    have g3 := hG.out.cell 3
    simp only [List.getElem?_toArray, List.getElem?_cons_zero, List.getElem?_cons_succ] at g2 g3
    by_cases hlt : k < n
    · obtain ⟨b, off, rfl, hbB, hl, c0⟩ := txtAt21 (H1.out.below (hb.out.mono hB)) hlt
      have ht := HS.out.texts _ (List.mem_append.2 (.inl (List.getElem_mem hl)))
      have HT := Lib.hid (linesW_succ [114, 101, 113, 117, 105, 114, 101, 115, 32] rq hl)
      generalize rq[k] = t at *
      have q1 : ¬ 9223372036854775807 < bb.size + 9 := by omega
      have q2 : ¬ 9223372036854775807 < bb.size + 9 + t.length := by omega
      have q3 : ¬ 9223372036854775807 < bb.size + 9 + t.length + 1 := by omega
      go_wp2_with (fail)
      exact ⟨⟨k + 1, _, by omega, by go_num, rfl, (show (_ : Txt) = _ by rw [HT.out, ← List.append_assoc, ← hbb.out]; simp), hG.out, hb.out⟩, by simp [intOf]; omega⟩
    · obtain rfl : k = n := by omega
      have HF := Lib.hid (show bb.data.toList = [114, 117, 110, 32] ++ st ++ [10] ++ linesW [114, 101, 113, 117, 105, 114, 101, 115, 32] rq by rw [hbb.out, List.take_of_length_le (by have := HL1.out; omega)])
      have HBS := Lib.hid hbs
      have HGG := hG
      have HBB := hb
      clear hbb
      go_wp2_with (fail)
      go_loopw [3, 5] (fun s i wr' => ∃ (j : Nat) (b2 : ByteArray), j ≤ n2 ∧ i = .int .i64 (j : Int) ∧ s = .string b2 ∧ Aside (b2.data.toList = bb.data.toList ++ linesW [97, 102, 116, 101, 114, 32] (af.take j)) ∧ Aside (Blk wr' w.heap.size 59 #[.string ⟨nm.toArray⟩, .string ⟨st.toArray⟩, .slice A k c, .slice A2 n2 c2]) ∧ Aside (Below w.heap.size w wr')) (fun _ i _ => n2 - (intOf i).toNat)
      case atStart => exact ⟨0, _, Nat.zero_le _, rfl, rfl, (show (_ : Txt) = _ by simp [linesW]), HGG.out, HBB.out⟩
      case round =>
        obtain ⟨j, b2, hj, rfl, rfl, hb2, hG', hb'⟩ := hrel
        have hs2 : b2.size ≤ 2400000000000 := by
          have h9 := congrArg List.length hb2.out
          have h8 := HW2.out j
          have h7 := HBS.out
          rw [bsz_list, List.length_append, bsz_list] at h9
          omega
        have g3 := hG'.out.cell 3
        simp only [List.getElem?_toArray, List.getElem?_cons_zero, List.getElem?_cons_succ] at g3
        by_cases hlt : j < n2
        · obtain ⟨b, off, rfl, hbB, hl, c0⟩ := txtAt21 (H2.out.below (hb'.out.mono hB)) hlt
          have ht := HS.out.texts _ (List.mem_append.2 (.inr (List.getElem_mem hl)))
          have HT := Lib.hid (linesW_succ [97, 102, 116, 101, 114, 32] af hl)
          generalize af[j] = t at *
          have q1 : ¬ 9223372036854775807 < b2.size + 6 := by omega
          have q2 : ¬ 9223372036854775807 < b2.size + 6 + t.length := by omega
          have q3 : ¬ 9223372036854775807 < b2.size + 6 + t.length + 1 := by omega
          go_wp2_with (fail)
          exact ⟨⟨j + 1, _, by omega, by go_num, rfl, (show (_ : Txt) = _ by rw [HT.out, ← List.append_assoc, ← hb2.out]; simp), hG'.out, hb'.out⟩, by simp [intOf]; omega⟩
        · obtain rfl : j = n2 := by omega
          have HE := Lib.hid (show b2 = ⟨([114, 117, 110, 32] ++ st ++ [10] ++ linesW [114, 101, 113, 117, 105, 114, 101, 115, 32] rq ++ linesW [97, 102, 116, 101, 114, 32] af).toArray⟩ from bytes_inj (by rw [hb2.out, HF.out, List.take_of_length_le (by have := HL2.out; omega)]))
          go_wp2_with (fail)
          go_ret
          exact ⟨congrArg (fun b => Ending.returned (Value.string b)) HE.out, hb'.out⟩
set_option maxRecDepth 100000 in
set_option maxHeartbeats 2000000 in
theorem copied21_any {w : World} {B : Nat} {A : Option Addr} {n c : Nat} {es : List EV} (h : EntsAt w B A n c es) (hB : B ≤ w.heap.size) (hn : n ≤ 10000000) (hd : ∀ e ∈ es, e.data.length ≤ 1000000000) :
    Calls Tryz.prog 12 #[.slice A n c] w fun e w' => ∃ A' c' es', e = .returned (.slice A' n c') ∧ OwnEnts w' w.heap.size (.slice A' n c') n es' ∧ es'.map EV.ent = es.map EV.ent ∧ Below w.heap.size w w' := by
  have H := Lib.hid h
  have HD := Lib.hid hd
  have HL := Lib.hid h.len
  have HO1 := Lib.hid (OwnEnts.nil w w.heap.size)
  clear h hd
  go_enter Tryz.func12, Tryz.ntmps12
  go_wp2_with (fail)
  go_loopw [3, 4] (fun o i wr => ∃ (k : Nat) (A' : Option Addr) (c' : Nat) (es' : List EV), k ≤ n ∧ i = .int .i64 (k : Int) ∧ o = .slice A' k c' ∧ Aside (OwnEnts wr w.heap.size (.slice A' k c') k es') ∧ Aside (es'.map EV.ent = (es.take k).map EV.ent) ∧ Aside (Below w.heap.size w wr)) (fun _ i _ => n - (intOf i).toNat)
  case atStart => exact ⟨0, _, _, [], Nat.zero_le _, rfl, rfl, HO1.out, rfl, Below.refl _ _⟩
  case round =>
    obtain ⟨k, A', c', es', hk, rfl, rfl, ho, hmap, hb⟩ := hrel
    by_cases hlt : k < n
    · obtain ⟨b, off, rfl, hbB, hl, c0, c1, c2, hS⟩ := (H.out.below (hb.out.mono hB)).at_ hlt
      have hdl := HD.out _ (List.getElem_mem hl)
      have HM := Lib.hid (show (es.take (k + 1)).map EV.ent = (es.take k).map EV.ent ++ [es[k].ent] by rw [List.take_succ_eq_append_getElem hl, List.map_append]; rfl)
      generalize es[k] = e at *
      have hen : e.n ≤ 1000000000 := by have := hS.len; rw [List.length_map] at this; omega
      obtain ⟨W2, w3, g3, c3, A6, c6, w6, S, hb6⟩ := copy_step ho.out hb.out e hS (Nat.le_trans hB hb.out.size) (by omega) hen
      have HR3 := Lib.hid S.r3
      have HR6 := Lib.hid S.r6
      have HO6 := Lib.hid S.own
      have HB6 := Lib.hid hb6
      have x0 := S.blk.cell 0
      have x1 := S.blk.cell 1
      have x2 := S.blk.cell 2
      have f2 := S.blk.frozen 2
      simp only [List.getElem?_toArray, List.getElem?_cons_zero, List.getElem?_cons_succ] at x0 x1 x2
      have hB2 := S.blk.set_ 2 (.slice (some ⟨g3, 0, none⟩) e.n c3)
      have y0 := hB2.cell 0
      have y1 := hB2.cell 1
      have y2 := hB2.cell 2
      simp only [List.setIfInBounds_toArray, List.set_cons_zero, List.set_cons_succ, List.getElem?_toArray, List.getElem?_cons_zero, List.getElem?_cons_succ] at y0 y1 y2
      clear S hS hb6 hB2 hdl
      go_wp2_with (first
        | (at_builtin; refine wpList_append_run rfl _ _ _ rfl rfl rfl HR3.out ?_; clear HR3)
        | (at_builtin; refine wpList_append_run rfl _ _ _ rfl rfl rfl HR6.out ?_; clear HR6))
      exact ⟨⟨k + 1, A6, c6, _, by omega, by go_num, rfl, HO6.out, by rw [HM.out, List.map_append, hmap.out]; rfl, HB6.out⟩, by simp [intOf]; omega⟩
    · obtain rfl : k = n := by omega
      have HT := Lib.hid (show es'.map EV.ent = es.map EV.ent by rw [hmap.out, List.take_of_length_le (by have := HL.out; omega)])
      go_wp2_with (fail)
      go_ret
      exact ⟨A', c', es', rfl, ho.out, HT.out, hb.out⟩
end Go.Proofs.YtibndaianhlcaaaGreatDoor
namespace Go.Proofs.YtibndaianhlcaaaGreatDoor
open Go.RowKit Go.Sort Go.Shelf
open Go.WideShapes (bytes_inj)
set_option linter.unusedVariables false
set_option linter.unusedSimpArgs false

/-- Entries in a row of the call's own, their bytes the caller's, below D. -/
structure ShareE (w : World) (D base : Nat) (v : Value) (n : Nat) (es : List EV) : Prop where
  own : w.ownsRow base 35 3 v n (es.flatMap evCells)
  data : ∀ e ∈ es, Slc w D 1 e.A e.n e.c (e.data.map bv)
  le : D ≤ base
theorem ShareE.nil (w : World) {D base : Nat} (h : D ≤ base) : ShareE w D base (.slice none 0 0) 0 [] := ⟨World.ownsRow_nil _ _ _ _, (fun e he => by cases he), h⟩
theorem ShareE.len {w : World} {D base : Nat} {v : Value} {n : Nat} {es : List EV} (h : ShareE w D base v n es) : es.length = n := by
  have := h.own.1
  rw [flatMap_len evCells 3 es (fun o _ => evCells_length o)] at this
  omega
theorem ShareE.below {w w' : World} {D base : Nat} {v : Value} {n : Nat} {es : List EV} (h : ShareE w D base v n es) (hb : Below w.heap.size w w') (hD : D ≤ w.heap.size) : ShareE w' D base v n es :=
  ⟨own_below h.own hb, fun e he => (h.data e he).below (hb.mono hD), h.le⟩
theorem ShareE.append {w : World} {D base : Nat} {v : Value} {n : Nat} {es : List EV} (h : ShareE w D base v n es) (e : EV) {ps : ByteArray} (hps : ps = ⟨e.path.toArray⟩) (hn : n ≤ 1000000000) (hbase : base ≤ w.heap.size) {B : Nat} (hS : Slc w B 1 e.A e.n e.c (e.data.map bv)) (hB : B ≤ w.heap.size) (hne : ∀ q, v.ownBlock = some q → ∀ x, 0 < e.n → e.A = some x → x.block ≠ q) :
    ∃ A' c' w', (Builtin.append_ #[22, 22] 22 #[v, .slice (some ⟨w.heap.size, 0, none⟩) 1 1]).run Tryz.prog (w.alloc (.cells #[.string ps, .int .i64 e.kind, .slice e.A e.n e.c] 35)) = .ok (.slice A' (n + 1) c') w' ∧
      w'.ownsRow base 35 3 (.slice A' (n + 1) c') (n + 1) ((es ++ [e]).flatMap evCells) ∧ (∀ x ∈ es, Slc w' D 1 x.A x.n x.c (x.data.map bv)) ∧ Slc w' B 1 e.A e.n e.c (e.data.map bv) ∧ (w.alloc (.cells #[.string ps, .int .i64 e.kind, .slice e.A e.n e.c] 35)).grownBy w' v.ownBlock := by
  subst hps
  obtain ⟨i, hi, hz0, hz1, hz2⟩ := info_parts ent_info
  have hs := slc_new w 35 (0, 0) #[.string ⟨e.path.toArray⟩, .int .i64 e.kind, .slice e.A e.n e.c] (sz := 3) (n := 1) (c := 1) rfl (Nat.le_refl _) (by decide)
  obtain ⟨A', c', w', h1, h2, h3, h4⟩ := append_slc (P := Tryz.prog) (w.alloc (.cells #[.string ⟨e.path.toArray⟩, .int .i64 e.kind, .slice e.A e.n e.c] 35)) base 22 22 35 i _ 3 48 Tryz.underlying22 hi hz0 hz1 hz2 rfl (by decide) v n (es.flatMap evCells) (h.own.alloc _) _ _ 1 1 (evCells e) hs (fun u hu => evCells_one [e] u (by rw [List.flatMap_cons, List.flatMap_nil, List.append_nil]; exact hu)) (by unfold maxLen; omega) (by omega) (by simp; omega)
  have hkeep : ∀ g, g < w.heap.size → v.ownBlock ≠ some g → w'.heap[g]? = w.heap[g]? := fun g g3 g4 => (h3.block g (by simp; omega) (fun e => g4 e.symm)).trans (Below.heap_alloc w _ g g3)
  have hD := h.le
  refine ⟨A', c', w', h1, ?_, fun x hx => ?_, ?_, h3⟩
  · rw [List.flatMap_append, List.flatMap_cons, List.flatMap_nil, List.append_nil]
    exact h2
  · have hsx := h.data x hx
    refine ⟨hsx.len, hsx.le, hsx.cmax, fun hp => ?_⟩
    obtain ⟨b, off, e1, hb, hc⟩ := hsx.at_ hp
    refine ⟨b, off, e1, hb, fun j u hu => ?_⟩
    rw [World.cell?_of_block (w := w) (a := ⟨b, off + j, none⟩) (hkeep b (by omega) (fun e9 => by have := (h.own.lt _ e9).1; omega))]
    exact hc j u hu
  · refine ⟨hS.len, hS.le, hS.cmax, fun hp => ?_⟩
    obtain ⟨b, off, e1, hb, hc⟩ := hS.at_ hp
    refine ⟨b, off, e1, hb, fun j u hu => ?_⟩
    rw [World.cell?_of_block (w := w) (a := ⟨b, off + j, none⟩) (hkeep b (by omega) (fun e9 => hne b e9 _ hp e1 rfl))]
    exact hc j u hu
/-- What laid gives. -/
def RefLaid (w : World) (s : SysP) : Ending → World → Prop := fun e w' => ∃ A n c es, e = .returned (.slice A n c) ∧ es.map EV.ent = laidS s ∧ EntsAt w' w'.heap.size A n c es ∧ Below w.heap.size w w'
set_option maxRecDepth 100000 in
set_option maxHeartbeats 4000000 in
theorem refLaid_any {w : World} {B : Nat} {o : OV} (h : ObsAt w B o) (hB : B ≤ w.heap.size) (hs : SmallO o) (hn2 : o.n2 ≤ 16) (hn3 : o.n3 ≤ 24) :
    Calls Tryz.prog 36 #[.agg (ovArr o)] w (RefLaid w (sysO o)) := by
  obtain ⟨A, n, c, es, A2, n2, c2, users, A3, n3, c3, us⟩ := o
  obtain ⟨h1, h2, h3⟩ := h
  simp only at h1 h2 h3 hn2 hn3
  obtain ⟨W0, hW0⟩ : ∃ W0, W0 = w.alloc (.cells #[.slice A n c, .slice A2 n2 c2, .slice A3 n3 c3] 26) := ⟨_, rfl⟩
  have hb0 : Below w.heap.size w W0 := by rw [hW0]; exact bel_new _ _
  have hz0 : W0.heap.size = w.heap.size + 1 := by rw [hW0]; simp
  have hG0 : Blk W0 w.heap.size 26 #[.slice A n c, .slice A2 n2 c2, .slice A3 n3 c3] := by rw [hW0]; exact Blk.new _ _ _
  have HW0 := Lib.hid hW0
  have HB0 := Lib.hid hb0
  have HZ0 := Lib.hid hz0
  have HGK := Lib.hid (fun (W : World) (hW : Below W0.heap.size W0 W) => show W.cell? ⟨w.heap.size, 0, none⟩ = some (.slice A n c) ∧ W.cell? ⟨w.heap.size, 1, none⟩ = some (.slice A2 n2 c2) ∧ W.cell? ⟨w.heap.size, 2, none⟩ = some (.slice A3 n3 c3) from ⟨(hG0.below hW hG0.lt).cell 0, (hG0.below hW hG0.lt).cell 1, (hG0.below hW hG0.lt).cell 2⟩)
  have H1 := Lib.hid h1
  have H2 := Lib.hid h2
  have H3 := Lib.hid h3
  have HS := Lib.hid hs
  have HB := Lib.hid hB
  have hn : n ≤ 1048576 := hs.n
  have HSU := Lib.hid (show ∀ t ∈ users, t.length ≤ 1048576 from hs.users)
  have HSN := Lib.hid (show ∀ u ∈ us, SmallU u from hs.units)
  have HSE := Lib.hid (show ∀ e ∈ es, e.path.length ≤ 1048576 ∧ e.data.length ≤ 1048576 from hs.ents)
  have HL1 := Lib.hid h1.len
  have HL2 := Lib.hid (show users.length = n2 by have := h2.len; simpa using this)
  have HL3 := Lib.hid h3.len
  have HO0 := Lib.hid (ShareE.nil W0 (show B ≤ W0.heap.size by omega))
  clear h1 h2 h3 hs hb0 hz0 hG0 hW0 hB
  unfold ovArr
  simp only
  go_enter Tryz.func36, Tryz.ntmps36
  go_wp2_with (fail)
  rw [← HW0.out]
  go_loopw [3, 4] (fun s i wr => ∃ (k : Nat) (A' : Option Addr) (c' : Nat) (es' : List EV), k ≤ n ∧ i = .int .i64 (k : Int) ∧ s = .slice A' k c' ∧ Aside (ShareE wr B W0.heap.size (.slice A' k c') k es') ∧ Aside (es'.map EV.ent = ((es.map EV.ent).take k).map etcE) ∧ Aside (Below W0.heap.size W0 wr)) (fun _ i _ => n - (intOf i).toNat)
  case atStart => exact ⟨0, none, 0, [], Nat.zero_le _, rfl, rfl, HO0.out, rfl, Below.refl _ _⟩
  case round =>
    obtain ⟨k, A', c', es', hk, rfl, rfl, ho, hmap, hb⟩ := hrel
    have hbw := HB0.out.trans (hb.out.mono HB0.out.size)
    obtain ⟨g0, g1, g2⟩ := HGK.out _ hb.out
    have hwl : w.heap.size < wr.heap.size := by have := hb.out.size; have := HZ0.out; omega
    by_cases hlt : k < n
    · obtain ⟨b, off, rfl, hbB, hl, c0, c1, c2', hS⟩ := (H1.out.below (hbw.mono HB.out)).at_ hlt
      have hsm := HSE.out _ (List.getElem_mem hl)
      have HM := Lib.hid (show ((es.map EV.ent).take (k + 1)).map etcE = ((es.map EV.ent).take k).map etcE ++ [etcE es[k].ent] by
        rw [← List.map_take, ← List.map_take, List.take_succ_eq_append_getElem hl, List.map_append, List.map_append]; rfl)
      generalize es[k] = e at *
      have hBw : B ≤ wr.heap.size := Nat.le_trans HB.out hbw.size
      have hbl : b < wr.heap.size := Nat.lt_of_lt_of_le hbB hBw
      obtain ⟨W1, hW1⟩ : ∃ W1, W1 = wr.alloc (.cells #[.string (⟨#[101, 116, 99, 47]⟩ ++ ⟨e.path.toArray⟩), .int .i64 e.kind, .slice e.A e.n e.c] 35) := ⟨_, rfl⟩
      have hb1 : Below wr.heap.size wr W1 := by rw [hW1]; exact bel_new _ _
      have hz1 : W1.heap.size = wr.heap.size + 1 := by rw [hW1]; simp
      have ho1 := ho.out.below hb1 hBw
      have hS1 := hS.below (hb1.mono hBw)
      obtain ⟨A6, c6, w6, r6, o6, d6, s6, g6⟩ := ho1.append ⟨[101, 116, 99, 47] ++ e.path, e.kind, e.data, e.A, e.n, e.c⟩ (ps := ⟨#[101, 116, 99, 47]⟩ ++ ⟨e.path.toArray⟩) (bytes_inj (by simp)) (by omega) (by have := hb.out.size; omega) hS1 (by omega) (fun q hq x hx0 hx => by
        have h7 := (ho.out.own.lt _ hq).1
        obtain ⟨b9, o9, e9, hb9, _⟩ := hS.at_ hx0
        have hx : e.A = some x := hx
        rw [e9] at hx
        rw [← Option.some.inj hx]
        have := HB.out
        have := HZ0.out
        simp only
        omega)
      rw [hz1, hW1] at r6
      have HR6 := Lib.hid r6
      have HO6 := Lib.hid (show ShareE w6 B W0.heap.size (.slice A6 (k + 1) c6) (k + 1) (es' ++ [⟨[101, 116, 99, 47] ++ e.path, e.kind, e.data, e.A, e.n, e.c⟩]) from ⟨o6, fun x hx => by
        rcases List.mem_append.1 hx with hx | hx
        · exact d6 x hx
        · rw [List.mem_singleton.1 hx]; exact s6, ho.out.le⟩)
      have HB6 := Lib.hid (show Below W0.heap.size W0 w6 from grown_below ((hb.out.trans (hb1.mono hb.out.size)).alloc (Nat.le_trans hb.out.size hb1.size) _) (ho1.own.alloc _) (by have := hb.out.size; simp; omega) g6)
      have q1 : ¬ 9223372036854775807 < 4 + e.path.length := by omega
      clear r6 o6 d6 s6 g6 ho1 hS1 hb1 hz1 hW1 hS hbw
      go_wp2_with (at_builtin; refine wpList_append_run rfl _ _ _ rfl rfl rfl HR6.out ?_; clear HR6)
      exact ⟨⟨k + 1, A6, c6, _, by omega, by go_num, rfl, HO6.out, (show (_ : List Ent) = _ by rw [HM.out, ← hmap.out, List.map_append]; rfl), HB6.out⟩, by simp [intOf]; omega⟩
    · obtain rfl : k = n := by omega
      have HMF := Lib.hid (show es'.map EV.ent = (es.map EV.ent).map etcE by rw [hmap.out, List.take_of_length_le (by rw [List.length_map]; have := HL1.out; omega)])
      have HOF := ho
      have HBF := hb
      clear hmap ho hb hbw
      go_wp2_with (fail)
      go_loopw [6, 7] (fun s i wr' => ∃ (j : Nat) (bb : ByteArray), j ≤ n2 ∧ i = .int .i64 (j : Int) ∧ s = .string bb ∧ Aside (bb.data.toList = linesW [117, 115, 101, 114, 32] (users.take j)) ∧ Aside (ShareE wr' B W0.heap.size (.slice A' k c') k es') ∧ Aside (Below W0.heap.size W0 wr')) (fun _ i _ => n2 - (intOf i).toNat)
      case atStart => exact ⟨0, _, Nat.zero_le _, rfl, rfl, rfl, HOF.out, HBF.out⟩
      case round =>
        clear g0 g1 g2
        obtain ⟨j, bb, hj, rfl, rfl, hbb, ho, hb⟩ := hrel
        have hbs : bb.size ≤ 1100000000000 := by
          rw [← bsz_list, hbb.out]
          exact users_lim (by have := HL2.out; omega) HSU.out j
        have hbw := HB0.out.trans (hb.out.mono HB0.out.size)
        obtain ⟨g0, g1, g2⟩ := HGK.out _ hb.out
        by_cases hlt : j < n2
        · obtain ⟨b, off, rfl, hbB, hl, c0⟩ := txtAt21 (H2.out.below (hbw.mono HB.out)) hlt
          have ht := HSU.out _ (List.getElem_mem hl)
          have HT := Lib.hid (linesW_succ [117, 115, 101, 114, 32] users hl)
          generalize users[j] = t at *
          have q1 : ¬ 9223372036854775807 < bb.size + 5 := by omega
          have q2 : ¬ 9223372036854775807 < bb.size + 5 + t.length := by omega
          have q3 : ¬ 9223372036854775807 < bb.size + 5 + t.length + 1 := by omega
          clear hbw
          go_wp2_with (fail)
          exact ⟨⟨j + 1, _, by omega, by go_num, rfl, (show (_ : Txt) = _ by rw [HT.out, ← hbb.out]; simp), ho.out, hb.out⟩, by simp [intOf]; omega⟩
        · obtain rfl : j = n2 := by omega
          have HBB := Lib.hid (show bb.data.toList = linesW [117, 115, 101, 114, 32] users by rw [hbb.out, List.take_of_length_le (by have := HL2.out; omega)])
          have HBS := Lib.hid hbs
          clear hbb hbw HOF HBF hbs
          go_wp2_with (fail)
          go_loopw [6, 8] (fun s i wr3 => ∃ (m : Nat) (b3 : ByteArray), m ≤ n3 ∧ i = .int .i64 (m : Int) ∧ s = .string b3 ∧ Aside (b3.data.toList = bb.data.toList ++ unitsW ((us.map SV.srv).take m)) ∧ Aside (ShareE wr3 B W0.heap.size (.slice A' k c') k es') ∧ Aside (Below W0.heap.size W0 wr3)) (fun _ i _ => n3 - (intOf i).toNat)
          case atStart => exact ⟨0, _, Nat.zero_le _, rfl, rfl, (show (_ : Txt) = _ by simp [unitsW]), ho.out, hb.out⟩
          case round =>
            clear ho hb g0 g1 g2
            obtain ⟨m, b3, hm, rfl, rfl, hbb, ho, hb⟩ := hrel
            have hb3 : b3.size ≤ 61100000000000 := by
              have h1 := congrArg List.length hbb.out
              rw [bsz_list, List.length_append, bsz_list] at h1
              have h2 := HBS.out
              have h3 := units_lim (us := us) (by have := HL3.out; omega) (fun u hu => (unitW_lim (HSN.out u hu) (by have := (H3.out.req u hu).len; simpa using this) (by have := (H3.out.aft u hu).len; simpa using this)).2) m
              omega
            have hbw := HB0.out.trans (hb.out.mono HB0.out.size)
            obtain ⟨g0, g1, g2⟩ := HGK.out _ hb.out
            by_cases hlt : m < n3
            · obtain ⟨b, off, rfl, hbB, hl, c0, c1, c2', c3', hS1, hS2⟩ := (H3.out.below (hbw.mono HB.out)).at_ hlt
              have hsu := HSN.out _ (List.getElem_mem hl)
              have HT := Lib.hid (show unitsW ((us.map SV.srv).take (m + 1)) = unitsW ((us.map SV.srv).take m) ++ unitW us[m].srv by rw [unitsW_succ _ (by rw [List.length_map]; exact hl), List.getElem_map])
              generalize us[m] = u at *
              obtain ⟨ll1, ll2⟩ := unitW_lim hsu (by have := hS1.len; simpa using this) (by have := hS2.len; simpa using this)
              have hnm := hsu.name
              have hBw : B ≤ wr.heap.size := Nat.le_trans HB.out hbw.size
              have hbl : b < wr.heap.size := Nat.lt_of_lt_of_le hbB hBw
              have hun := lines21_any (w := wr.drew) u hS1.drew hS2.drew hBw hsu
              have HKP := Lib.hid (fun (W' : World) (h9 : Below wr.heap.size wr W') => show W'.cell? ⟨w.heap.size, 2, none⟩ = some (.slice (some ⟨b, off, none⟩) n3 c3) ∧ W'.cell? ⟨b, off + m * 4, none⟩ = some (.string ⟨u.name.toArray⟩) ∧ W'.cell? ⟨b, off + m * 4 + 1, none⟩ = some (.string ⟨u.start.toArray⟩) ∧ W'.cell? ⟨b, off + m * 4 + 2, none⟩ = some (.slice u.A u.n u.c) ∧ W'.cell? ⟨b, off + m * 4 + 3, none⟩ = some (.slice u.A2 u.n2 u.c2) from by
                have h2 : w.heap.size < wr.heap.size := by have := hb.out.size; have := HZ0.out; omega
                exact ⟨(h9.cell h2).trans g2, (h9.cell hbl).trans c0, (h9.cell hbl).trans c1, (h9.cell hbl).trans c2', (h9.cell hbl).trans c3'⟩)
              unfold unitW at HT
              generalize linesU u.srv = lu at *
              have HUW := Lib.hid (show u.srv.name = u.name from rfl)
              rw [HUW.out] at HT
              unfold svArr at hun
              have q1 : ¬ 9223372036854775807 < b3.size + 5 := by omega
              have q2 : ¬ 9223372036854775807 < b3.size + 5 + u.name.length := by omega
              have q3 : ¬ 9223372036854775807 < b3.size + 5 + u.name.length + 1 := by omega
              have q4 : ¬ 9223372036854775807 < b3.size + 5 + u.name.length + 1 + lu.length := by omega
              clear hbw hS1 hS2 hsu ll1 ll2 hnm
              go_wp2_with (fail)
              go_region_held (fun W' => W'.cell? ⟨w.heap.size, 2, none⟩ = some (.slice (some ⟨b, off, none⟩) n3 c3) ∧ W'.cell? ⟨b, off + m * 4, none⟩ = some (.string ⟨u.name.toArray⟩) ∧ W'.cell? ⟨b, off + m * 4 + 1, none⟩ = some (.string ⟨u.start.toArray⟩) ∧ W'.cell? ⟨b, off + m * 4 + 2, none⟩ = some (.slice u.A u.n u.c) ∧ W'.cell? ⟨b, off + m * 4 + 3, none⟩ = some (.slice u.A2 u.n2 u.c2))
                (first | exact HKP.out _ HB2.out | exact HKP.out _ (Below.refl _ wr).drew)
                (first
                | (go_at_call 77; refine hun.mono ?_; clear hun; rintro e2 w2 ⟨rfl, hb2⟩; have HB2 := Lib.hid (show Below wr.heap.size wr w2 from ((Below.refl _ wr).drew).trans hb2); clear hb2))
              go_wp2_with (fail)
              have hfin := HB2.out
              exact ⟨⟨m + 1, _, by omega, by go_num, rfl, (show (_ : Txt) = _ by rw [HT.out, ← List.append_assoc, ← hbb.out]; simp), ho.out.below hfin hBw, hb.out.trans (hfin.mono hb.out.size)⟩, by simp [intOf]; omega⟩
            · obtain rfl : m = n3 := by omega
              have HTX := Lib.hid (show (b3 ++ (⟨#[101, 110, 100, 10]⟩ : ByteArray)).data.toList = textS ⟨es.map EV.ent, users, us.map SV.srv⟩ by
                rw [textS_eq]
                show _ = linesW [117, 115, 101, 114, 32] users ++ unitsW (us.map SV.srv) ++ [101, 110, 100, 10]
                rw [← HBB.out, ← List.take_of_length_le (l := us.map SV.srv) (i := m) (by rw [List.length_map]; have := HL3.out; omega), ← hbb.out]
                simp)
              have q1 : ¬ 9223372036854775807 < b3.size + 4 := by omega
              have hts : (b3 ++ (⟨#[101, 110, 100, 10]⟩ : ByteArray)).size = b3.size + 4 := by rw [ByteArray.size_append]; rfl
              obtain ⟨cap, w2, hcv, hb2, hz2, hS2, hBB⟩ := text_bytes wr (b3 ++ (⟨#[101, 110, 100, 10]⟩ : ByteArray)) (by rw [hts]; unfold maxLen; omega)
              rw [HTX.out] at hS2
              rw [hts] at hcv hS2 hBB
              have hBw : B ≤ wr.heap.size := Nat.le_trans HB.out hbw.size
              have ho2 := ho.out.below hb2 hBw
              have hlt0 : W0.heap.size ≤ wr.heap.size := hb.out.size
              obtain ⟨A6, c6, w6, r6, o6, d6, s6, g6⟩ := ho2.append ⟨[115, 121, 115, 116, 101, 109], 1, textS ⟨es.map EV.ent, users, us.map SV.srv⟩, some ⟨wr.heap.size, 0, none⟩, b3.size + 4, cap⟩ (ps := ⟨#[115, 121, 115, 116, 101, 109]⟩) rfl (by omega) (by omega) hS2 (by omega) (fun q hq x hx0 hx e9 => by
                have h7 := (ho.out.own.lt _ hq).2
                have hx' := congrArg Addr.block (Option.some.inj hx)
                simp only at hx'
                omega)
              have HO6 := Lib.hid (own_slc_of o6)
              have HL6 := Lib.hid (show (es' ++ [(⟨[115, 121, 115, 116, 101, 109], 1, textS ⟨es.map EV.ent, users, us.map SV.srv⟩, some ⟨wr.heap.size, 0, none⟩, b3.size + 4, cap⟩ : EV)]).length = k + 1 by rw [List.length_append, ho.out.len]; rfl)
              have HB6 := Lib.hid (show Below W0.heap.size W0 w6 from grown_below (((hb.out.trans (hb2.mono hlt0))).alloc (by omega) _) (ho2.own.alloc _) (by simp; omega) g6)
              have hz6 : w2.heap.size ≤ w6.heap.size := by have := g6.size; simp at this; omega
              have HD6 := Lib.hid (show ∀ x ∈ es' ++ [(⟨[115, 121, 115, 116, 101, 109], 1, textS ⟨es.map EV.ent, users, us.map SV.srv⟩, some ⟨wr.heap.size, 0, none⟩, b3.size + 4, cap⟩ : EV)], Slc w6 w6.heap.size 1 x.A x.n x.c (x.data.map bv) from fun x hx => by
                rcases List.mem_append.1 hx with hx | hx
                · exact (d6 x hx).more (by omega)
                · rw [List.mem_singleton.1 hx]; exact s6.more (by omega))
              have HR6 := Lib.hid r6
              clear hts hb2 hz2 hS2 hBB ho2 o6 d6 s6 g6 r6 hbw hbb ho hb hz6 hBw hb3
              go_wp2_with (at_builtin; refine wpList_append_run rfl _ _ _ rfl rfl rfl HR6.out ?_; clear HR6)
              go_ret
              refine ⟨A6, k + 1, c6, _, rfl, ?_, ⟨HO6.out, HL6.out, HD6.out⟩, HB0.out.trans (HB6.out.mono HB0.out.size)⟩
              rw [List.map_append, HMF.out]
              rfl
end Go.Proofs.YtibndaianhlcaaaGreatDoor
namespace Go.Proofs.YtibndaianhlcaaaGreatDoor
open Go.RowKit Go.Sort Go.Shelf
set_option linter.unusedVariables false
set_option linter.unusedSimpArgs false

theorem print_lo {c : UInt8} (h : (c.toNat : Int) < 32) : printB c = false := by unfold printB; exact decide_eq_false (by omega)
theorem print_hi {c : UInt8} (h : (126 : Int) < (c.toNat : Int)) : printB c = false := by unfold printB; exact decide_eq_false (by omega)
theorem print_ok {c : UInt8} (h : ¬ (c.toNat : Int) < 32) (h2 : ¬ (126 : Int) < (c.toNat : Int)) : printB c = true := by unfold printB; exact decide_eq_true (by omega)
set_option maxRecDepth 100000 in
set_option maxHeartbeats 2000000 in
theorem refMay_any {w : World} {B : Nat} (u : SV) (h1 : Slc w B 1 u.A u.n u.c (u.req.map encStr)) (h2 : Slc w B 1 u.A2 u.n2 u.c2 (u.aft.map encStr)) (hB : B ≤ w.heap.size) (hn : u.n ≤ 1000000000 ∧ u.n2 ≤ 1000000000) (hs : ∀ t ∈ u.name :: (u.req ++ u.aft), t.length ≤ 1000000000) (hst : u.start.length ≤ 1000000000) :
    Calls Tryz.prog 46 #[.agg (svArr u)] w fun e w' => e = .returned (.bool (mayU u.srv)) ∧ Below w.heap.size w w' := by
  have hbv : Below w.heap.size w (w.alloc (.cells (svArr u) 59)).drew := ((Below.refl _ w).alloc (Nat.le_refl _) _).drew
  have hzv : (w.alloc (.cells (svArr u) 59)).drew.heap.size = w.heap.size + 1 := by simp
  have hGv : Blk (w.alloc (.cells (svArr u) 59)).drew w.heap.size 59 (svArr u) := (Blk.new _ _ _).drew
  obtain ⟨A1, c1, w1, A2, c2, w2, S⟩ := names20 (w := w) u (h1.below (hbv.mono hB)) (h2.below (hbv.mono hB)) (by rw [hzv]; omega) hn
  have HG2 := Lib.hid (hGv.below S.bel hGv.lt)
  have HG1 := Lib.hid (hGv.below S.bel1 hGv.lt)
  have HG0 := Lib.hid hGv
  have HB2 := Lib.hid (hbv.trans (S.bel.mono (by rw [hzv]; omega)))
  have HW := Lib.hid S.row
  have r1 := S.r1
  have r2 := S.r2
  rw [hzv] at r1
  obtain ⟨L, hL⟩ : ∃ L, L = u.name :: (u.req ++ u.aft) := ⟨_, rfl⟩
  have HM := Lib.hid (show mayU u.srv = (L.all nameB && decide (1 ≤ u.start.length ∧ u.start.length ≤ 120) && u.start.all printB) by rw [hL]; rfl)
  rw [← hL] at HW hs
  have hLn : L.length = 1 + u.n + u.n2 := by have e1 := h1.len; have e2 := h2.len; rw [List.length_map] at e1 e2; rw [hL]; simp; omega
  obtain ⟨N, hN⟩ : ∃ N, N = 1 + u.n + u.n2 := ⟨_, rfl⟩
  rw [← hN] at r2 HW hLn
  have hN62 : N ≤ 9000000000 := by omega
  have hw2 : w.heap.size < w2.heap.size := by have := S.bel.size; omega
  have HS := Lib.hid hs
  have HLN := Lib.hid hLn
  have HN := Lib.hid hN
  clear h1 h2 hB hn S hbv hzv hGv hL hs hLn hN
  have HLEN : Hid (u.start.length ≤ 1000000000) := hst
  obtain ⟨nm, st, rq, A, n, c, af, A', n', c'⟩ := u
  have x0 := HG0.out.cell 0
  have x1 := HG0.out.cell 1
  have x2 := HG0.out.cell 2
  have x3 := HG0.out.cell 3
  have y2 := HG1.out.cell 2
  have y3 := HG1.out.cell 3
  unfold svArr at r1 x0 x1 x2 x3 y2 y3 ⊢
  simp only [List.getElem?_toArray, List.getElem?_cons_zero, List.getElem?_cons_succ] at x0 x1 x2 x3 y2 y3
  simp only at r1 r2
  have r1' : (Builtin.append_ #[23, 23] 23 #[.slice (some ⟨w.heap.size + 1, 0, none⟩) 1 1, .slice A n c]).run Tryz.prog ((w.alloc (.cells #[.string ⟨nm.toArray⟩, .string ⟨st.toArray⟩, .slice A n c, .slice A' n' c'] 59)).alloc (.cells #[.string ⟨nm.toArray⟩] 9)).drew = .ok (.slice A1 (1 + n) c1) w1 := r1
  have HR1 := Lib.hid r1'
  clear r1'
  have HR2 := Lib.hid r2
  have HX := Lib.hid (And.intro x0 (And.intro x2 x3))
  have HGA := Lib.hid ((HG0.out).alloc (.cells #[.string ⟨nm.toArray⟩] 9))
  have HXA := Lib.hid (And.intro (HGA.out.cell 0) (And.intro (HGA.out.cell 2) (HGA.out.cell 3)))
  have HX1 := Lib.hid (And.intro (HG1.out.cell 0) (And.intro (HG1.out.cell 2) (HG1.out.cell 3)))
  have HX2 := Lib.hid (And.intro (HG2.out.cell 0) (And.intro (HG2.out.cell 2) (HG2.out.cell 3)))
  clear r1 r2 x0 x1 x2 x3 y2 y3
  go_enter Tryz.func46, Tryz.ntmps46
  go_wp2_with (fail)
  go_region_held3 (fun W' => W'.cell? ⟨w.heap.size, 0, none⟩ = some (.string ⟨nm.toArray⟩) ∧ W'.cell? ⟨w.heap.size, 2, none⟩ = some (.slice A n c) ∧ W'.cell? ⟨w.heap.size, 3, none⟩ = some (.slice A' n' c')) (first | exact HX.out | exact HXA.out | exact HX1.out | exact HX2.out) (first
    | (refine step_append_at (by rfl) _ _ _ (by rfl) HR1.out (by with_reducible rfl) (by rfl) (by rfl) (by rfl) ?_)
    | (refine step_append_at (by rfl) _ _ _ (by rfl) HR2.out (by with_reducible rfl) (by rfl) (by rfl) (by rfl) ?_))
  go_wp2_with (fail)
  go_loopw [4, 5] (fun i _ wr => ∃ k : Nat, k ≤ N ∧ i = .int .i64 (k : Int) ∧ Aside ((L.take k).all nameB = true) ∧ Aside (Below w2.heap.size w2 wr)) (fun i _ _ => N - (intOf i).toNat)
  case atStart => exact ⟨0, Nat.zero_le _, rfl, rfl, Below.refl _ _⟩
  case round =>
    obtain ⟨k, hk, rfl, hall, hb⟩ := hrel
    by_cases hlt : k < N
    · obtain ⟨b, off, rfl, hbB, hc⟩ := (HW.out.below hb.out).at_ (by omega)
      have hkL : k < L.length := by rw [HLN.out]; exact hlt
      have c0 : wr.cell? ⟨b, off + k, none⟩ = some (.string ⟨L[k].toArray⟩) := hc k _ (by rw [List.getElem?_map, List.getElem?_eq_getElem hkL]; rfl)
      have hsh := HS.out _ (List.getElem_mem hkL)
      have hnm := refName_any ⟨L[k].toArray⟩ wr (by show L[k].toArray.size ≤ maxLen; rw [List.size_toArray]; unfold maxLen; omega)
      have HTK := Lib.hid (show (L.take (k + 1)).all nameB = nameB L[k] by rw [List.take_succ_eq_append_getElem hkL, List.all_append, hall.out]; simp)
      have HAL := Lib.hid (show nameB L[k] = false → L.all nameB = false from fun h9 => by rw [List.all_eq_false]; exact ⟨_, List.getElem_mem hkL, by rw [h9]; decide⟩)
      generalize L[k] = t at *
      have ht : (ByteArray.mk t.toArray).data.toList = t := rfl
      rw [ht] at hnm
      clear hc hsh ht
      cases hb9 : nameB t with
      | false =>
        rw [hb9] at hnm
        have HF := Lib.hid (show mayU ⟨nm, st, rq, af⟩ = false by have h8 := HM.out; rw [HAL.out hb9] at h8; exact h8)
        clear hb9
        go_wp2_with (go_at_call 45; refine hnm.mono ?_; clear hnm; rintro e9 w9 ⟨rfl, hb9⟩; have HB9 := Lib.hid (hb.out.trans (hb9.mono hb.out.size)); clear hb9)
        go_ret
        exact ⟨by show _ = Ending.returned (.bool (mayU ⟨nm, st, rq, af⟩)); rw [HF.out]; rfl, HB2.out.trans (HB9.out.mono (by have := HB2.out.size; omega))⟩
      | true =>
        rw [hb9] at hnm
        have HT := Lib.hid (HTK.out.trans hb9)
        clear hb9
        go_wp2_with (go_at_call 45; refine hnm.mono ?_; clear hnm; rintro e9 w9 ⟨rfl, hb9⟩; have HB9 := Lib.hid (hb.out.trans (hb9.mono hb.out.size)); clear hb9)
        exact ⟨⟨k + 1, by omega, by go_num, HT.out, HB9.out⟩, by simp [intOf]; omega⟩
    · have HM2 := Lib.hid (show mayU ⟨nm, st, rq, af⟩ = (decide (1 ≤ st.length ∧ st.length ≤ 120) && st.all printB) by
        have h8 := HM.out
        have h9 := hall.out
        rw [List.take_of_length_le (by have := HLN.out; omega)] at h9
        rw [h9, Bool.true_and] at h8
        exact h8)
      have hGr := HG2.out.below hb.out hw2
      have z1 := hGr.cell 1
      unfold svArr at z1
      simp only [List.getElem?_toArray, List.getElem?_cons_zero, List.getElem?_cons_succ] at z1
      have HBR := Lib.hid (HB2.out.trans (hb.out.mono (by have := HB2.out.size; omega)))
      have hst9 := HLEN.out
      obtain ⟨wo, hwo⟩ : ∃ wo : World, wo = wr := ⟨_, rfl⟩
      have HWO := Lib.hid hwo
      clear hGr HG0 HG1 HG2 HX HX1 HX2 HXA HGA hwo
      go_wp2_with (fail)
      go_loopw [6] (fun i wr => ∃ k : Nat, k ≤ st.length ∧ i = .int .i64 (k : Int) ∧ wr = wo ∧ Aside ((st.take k).all printB = true)) (fun i _ => st.length - (intOf i).toNat)
      case atStart => exact ⟨0, Nat.zero_le _, rfl, HWO.out.symm, rfl⟩
      case round =>
        obtain ⟨k2, hk2, rfl, rfl, hall2⟩ := hrel
        have z1' := z1
        rw [← HWO.out] at z1'
        by_cases hlt2 : k2 < st.length
        · have hx2 : k2 < (ByteArray.mk st.toArray).size := hlt2
          have hce : (ByteArray.mk st.toArray)[k2] = st[k2] := rfl
          have HTK2 := Lib.hid (show (st.take (k2 + 1)).all printB = printB st[k2] by rw [List.take_succ_eq_append_getElem hlt2, List.all_append, hall2.out]; simp)
          have HAL2 := Lib.hid (show printB st[k2] = false → mayU ⟨nm, st, rq, af⟩ = false from fun h9 => by
            have h8 : st.all printB = false := by rw [List.all_eq_false]; exact ⟨_, List.getElem_mem hlt2, by rw [h9]; decide⟩
            rw [HM2.out, h8, Bool.and_false])
          rw [← hce] at HTK2 HAL2
          clear hce
          generalize hcc : (ByteArray.mk st.toArray)[k2] = ch at *
          by_cases hc1 : (ch.toNat : Int) < 32
          · have HF := Lib.hid (HAL2.out (print_lo hc1))
            go_wp2_with (fail)
            go_ret
            exact ⟨by show _ = Ending.returned (.bool (mayU ⟨nm, st, rq, af⟩)); rw [HF.out]; rfl, HWO.out ▸ HBR.out⟩
          · by_cases hc2 : (126 : Int) < (ch.toNat : Int)
            · have HF := Lib.hid (HAL2.out (print_hi hc2))
              go_wp2_with (fail)
              go_ret
              exact ⟨by show _ = Ending.returned (.bool (mayU ⟨nm, st, rq, af⟩)); rw [HF.out]; rfl, HWO.out ▸ HBR.out⟩
            · have HT := Lib.hid (HTK2.out.trans (print_ok hc1 hc2))
              go_wp2_with (fail)
              exact ⟨⟨k2 + 1, by omega, by go_num, by first | rfl | trivial, HT.out⟩, by simp [intOf]; omega⟩
        · obtain rfl : k2 = st.length := by omega
          have HM3 := Lib.hid (show mayU ⟨nm, st, rq, af⟩ = decide (1 ≤ st.length ∧ st.length ≤ 120) by
            have h9 := hall2.out
            rw [List.take_of_length_le (Nat.le_refl _)] at h9
            rw [HM2.out, h9, Bool.and_true])
          by_cases ha : (1 : Int) ≤ (st.length : Int)
          · by_cases hbb : (st.length : Int) ≤ 120
            · have HF := Lib.hid (show mayU ⟨nm, st, rq, af⟩ = true by rw [HM3.out]; exact decide_eq_true (by omega))
              go_wp2_with (fail)
              go_ret
              exact ⟨by show _ = Ending.returned (.bool (mayU ⟨nm, st, rq, af⟩)); rw [HF.out]; rfl, HWO.out ▸ HBR.out⟩
            · have HF := Lib.hid (show mayU ⟨nm, st, rq, af⟩ = false by rw [HM3.out]; exact decide_eq_false (by omega))
              go_wp2_with (fail)
              go_ret
              exact ⟨by show _ = Ending.returned (.bool (mayU ⟨nm, st, rq, af⟩)); rw [HF.out]; rfl, HWO.out ▸ HBR.out⟩
          · have HF := Lib.hid (show mayU ⟨nm, st, rq, af⟩ = false by rw [HM3.out]; exact decide_eq_false (by omega))
            go_wp2_with (fail)
            go_ret
            exact ⟨by show _ = Ending.returned (.bool (mayU ⟨nm, st, rq, af⟩)); rw [HF.out]; rfl, HWO.out ▸ HBR.out⟩
end Go.Proofs.YtibndaianhlcaaaGreatDoor
