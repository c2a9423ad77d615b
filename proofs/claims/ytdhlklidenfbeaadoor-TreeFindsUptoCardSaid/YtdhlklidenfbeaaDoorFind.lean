/- The walk of tree.Find. -/
import Derived.Test.YtdhlklidenfbeaaDoorCopy08
import Derived.Test.YtdhlklidenfbeaaDoorMarks
import Derived.Test.YtdhlklidenfbeaaDoorRes
namespace Go.Proofs.YtdhlklidenfbeaaDoor
open Go.RowKit Go.Shelf
set_option linter.unusedVariables false
set_option linter.unusedSimpArgs false

/-- The first entry of a path. -/
def findE (l : List Ent) (p : Txt) : Option Ent := l.find? fun x => decide (x.path = p)
def foundE (l : List Ent) (p : Txt) : Ent := (findE l p).getD ⟨[], 0, []⟩
theorem findE_at {l : List Ent} {p : Txt} {k : Nat} (hk : k < l.length) (h : l[k].path = p) (hno : ∀ i (hi : i < l.length), i < k → l[i].path ≠ p) : findE l p = some l[k] := by
  unfold findE
  rw [List.find?_eq_some_iff_getElem]
  exact ⟨by simpa using h, k, hk, rfl, fun j hj => by simpa using hno j (by omega) hj⟩
theorem findE_none {l : List Ent} {p : Txt} (hno : ∀ i (hi : i < l.length), l[i].path ≠ p) : findE l p = none := by
  unfold findE
  rw [List.find?_eq_none]
  intro x hx
  obtain ⟨i, hi, rfl⟩ := List.mem_iff_getElem.1 hx
  simpa using hno i hi
theorem res_ent2 {fn : Func} {t u : Tmp} {g : Nat} {cs : Array Value} {w : World} {tmps : Array Value} (h : fn.results = #[.cell t 44, .tmp u]) (ht : tmps.getD t undef = .pointer (some ⟨g, 0, none⟩)) (hb : Blk w g 44 cs) (hcs : cs.size = 3) :
    (results fn tmps).run Tryd.prog w = .ok (.tuple #[.agg cs, tmps.getD u undef]) w := results_aggr2 h ht Tryd.isAgg44 Tryd.sizeOf44 hcs hb
/-- What Find gives. -/
def FindPost (w : World) (l : List Ent) (p : Txt) : Ending → World → Prop := fun v w' => ∃ x : EV, v = .returned (.tuple #[.agg (evArr x), .bool (findE l p).isSome]) ∧ x.ent = foundE l p ∧ w'.ownsRow w.heap.size 5 1 (.slice x.A x.n x.c) x.n (x.data.map bv) ∧ Below w.heap.size w w'

/-- The bytes of an entry that was found, copied. -/
structure CopyData (w wr : World) (e : EV) (w3 : World) (g3 c3 : Nat) : Prop where
  r3 : (Builtin.append_ #[42, 42] 42 #[.slice (some ⟨wr.heap.size + 1, 0, none⟩) 0 0, .slice e.A e.n e.c]).run Tryd.prog ((wr.alloc (.cells #[.string ⟨e.path.toArray⟩, .int .i64 e.kind, .slice e.A e.n e.c] 44)).alloc (.cells #[] 5)) = .ok (.slice (some ⟨g3, 0, none⟩) e.n c3) w3
  blk : Blk w3 wr.heap.size 44 #[.string ⟨e.path.toArray⟩, .int .i64 e.kind, .slice e.A e.n e.c]
  old : Blk w3 w.heap.size 44 #[.string .empty, .int .i64 0, .slice none 0 0]
  own : w3.ownsRow (wr.heap.size + 1) 5 1 (.slice (some ⟨g3, 0, none⟩) e.n c3) e.n (e.data.map bv)
  bel : Below w.heap.size w w3
  apart : wr.heap.size < g3
theorem copy_data {w wr : World} {B : Nat} (hb : Below w.heap.size w wr) (hG : Blk wr w.heap.size 44 #[.string .empty, .int .i64 0, .slice none 0 0]) (e : EV) (hS : Slc wr B 1 e.A e.n e.c (e.data.map bv)) (hB : B ≤ wr.heap.size) (hn : e.n ≤ 1000000000) :
    ∃ g3 c3 w3, CopyData w wr e w3 g3 c3 := by
  obtain ⟨W1, hW1⟩ : ∃ W1, W1 = wr.alloc (.cells #[.string ⟨e.path.toArray⟩, .int .i64 e.kind, .slice e.A e.n e.c] 44) := ⟨_, rfl⟩
  have hb1 : Below wr.heap.size wr W1 := by rw [hW1]; exact (Below.refl _ wr).alloc (Nat.le_refl _) _
  have hz1 : W1.heap.size = wr.heap.size + 1 := by rw [hW1]; simp
  have hG1 : Blk W1 wr.heap.size 44 #[.string ⟨e.path.toArray⟩, .int .i64 e.kind, .slice e.A e.n e.c] := by rw [hW1]; exact Blk.new _ _ _
  have ho2 := empty_own W1 W1.heap.size (Nat.le_refl _)
  have hb2 : Below W1.heap.size W1 (W1.alloc (.cells #[] 5)) := (Below.refl _ W1).alloc (Nat.le_refl _) _
  obtain ⟨A3, c3, w3, r3, o3, g3, hv3⟩ := append_bytes (W1.alloc (.cells #[] 5)) W1.heap.size _ 0 [] ho2 B e.A e.n e.c e.data ((hS.below (hb1.mono hB)).below (hb2.mono (by rw [hz1]; omega))) (by omega) (by simp)
  rw [Nat.zero_add] at r3 o3
  rw [List.nil_append] at o3
  have hb3 := grown_below hb2 ho2 (by simp) g3
  obtain ⟨gd, hA3, hgd, hgd2⟩ : ∃ gd, A3 = some ⟨gd, 0, none⟩ ∧ W1.heap.size ≤ gd ∧ gd < w3.heap.size := by
    rcases o3.2 with ⟨hnil, h0⟩ | ⟨gd, cap, cur, e1, e2, e3, _⟩
    · exfalso
      injection hnil with e1 e2 e3
      subst e1
      rcases hv3 with hv3 | hv3 <;> simp [Value.ownBlock] at hv3
    · injection e1 with e1
      exact ⟨gd, e1, e2, (Array.getElem?_eq_some_iff.1 e3).1⟩
  subst hA3
  have hbw3 : Below wr.heap.size wr w3 := hb1.trans (hb3.mono (by rw [hz1]; omega))
  rw [hW1, World.size_alloc] at r3
  exact ⟨gd, c3, w3, r3, hG1.below hb3 hG1.lt, hG.below hbw3 hG.lt, hz1 ▸ o3, hb.trans (hbw3.mono hb.size), by omega⟩


set_option maxRecDepth 100000 in
set_option maxHeartbeats 2000000 in
theorem find_any {w : World} {B : Nat} {A : Option Addr} {n c : Nat} {es : List EV} (h : EntsAt w B A n c es) (hB : B ≤ w.heap.size) (p : Txt) (hd : ∀ e ∈ es, e.data.length ≤ 1000000000) :
    Calls Tryd.prog 46 #[.slice A n c, .string ⟨p.toArray⟩] w (FindPost w (es.map EV.ent) p) := by
  obtain ⟨l, hl⟩ : ∃ l, l = es.map EV.ent := ⟨_, rfl⟩
  have hn62 : n ≤ 9223372036854775807 := by have h1 := h.slc.le; have h2 := h.slc.cmax; unfold maxLen at h2; omega
  rw [← hl]
  have H := Lib.hid h
  have HD := Lib.hid hd
  have HL := Lib.hid hl
  have HLL := Lib.hid (show l.length = n by rw [hl, List.length_map, h.len])
  have tp : (ByteArray.mk p.toArray).toList = p := Go.ByteArray.toList_eq _
  have HG0 := Lib.hid (Blk.new w 44 #[.string .empty, .int .i64 0, .slice none 0 0])
  have HB0 := Lib.hid ((Below.refl w.heap.size w).alloc (Nat.le_refl _) (.cells #[.string .empty, .int .i64 0, .slice none 0 0] 44))
  clear h hd hl
  go_enter Tryd.func46, Tryd.ntmps46
  go_wp2_with (fail)
  go_loopw [10] (fun i wr => ∃ k : Nat, k ≤ n ∧ i = .int .i64 (k : Int) ∧ Aside (∀ j (hj : j < l.length), j < k → l[j].path ≠ p) ∧ Aside (Blk wr w.heap.size 44 #[.string .empty, .int .i64 0, .slice none 0 0]) ∧ Aside (Below w.heap.size w wr)) (fun i _ => n - (intOf i).toNat)
  case atStart => exact ⟨0, Nat.zero_le _, rfl, fun j _ h => absurd h (Nat.not_lt_zero _), HG0.out, HB0.out⟩
  case round =>
    obtain ⟨k, hk, rfl, hno, hG, hb⟩ := hrel
    have hGl := hG.out.lt
    by_cases hlt : k < n
    · obtain ⟨b, off, rfl, hbB, hkl, c0, c1, c2, hS⟩ := (H.out.below (hb.out.mono hB)).at_ hlt
      have hkl' : k < l.length := by rw [HLL.out]; exact hlt
      have hlk : l[k] = es[k].ent := by have := HL.out; subst this; exact ents_get hkl hkl'
      have hdl := HD.out _ (List.getElem_mem hkl)
      by_cases hhit : l[k].path = p
      case neg =>
        have HN := Lib.hid (show ∀ j (hj : j < l.length), j < k + 1 → l[j].path ≠ p from fun j hj hjk => by
          rcases Nat.lt_or_ge j k with h1 | h1
          · exact hno.out j hj h1
          · obtain rfl : j = k := by omega
            exact hhit)
        have hq : ¬ es[k].path = p := by rw [hlk] at hhit; exact hhit
        have k1 : (es[k].path == p) = false := by simpa using hq
        clear hq
        have tx : (ByteArray.mk es[k].path.toArray).toList = es[k].path := Go.ByteArray.toList_eq _
        generalize es[k] = e at *
        have HGA := Lib.hid (hG.out.alloc (.cells #[.string ⟨e.path.toArray⟩, .int .i64 e.kind, .slice e.A e.n e.c] 44))
        have HBA := Lib.hid (hb.out.alloc hb.out.size (.cells #[.string ⟨e.path.toArray⟩, .int .i64 e.kind, .slice e.A e.n e.c] 44))
        clear hhit hlk hS
        go_wp2_with (fail)
        exact ⟨⟨k + 1, by omega, by go_num, HN.out, HGA.out, HBA.out⟩, by simp [intOf]; omega⟩
      case pos =>
        have HF := Lib.hid (findE_at hkl' hhit hno.out)
        rw [hlk] at HF
        have hq : es[k].path = p := by rw [hlk] at hhit; exact hhit
        have k1 : (es[k].path == p) = true := by simpa using hq
        clear hq
        have tx : (ByteArray.mk es[k].path.toArray).toList = es[k].path := Go.ByteArray.toList_eq _
        generalize es[k] = e at *
        have hen : e.n ≤ 1000000000 := by have := hS.len; rw [List.length_map] at this; omega
        obtain ⟨g3, c3, w3, S⟩ := copy_data hb.out hG.out e hS (Nat.le_trans hB hb.out.size) hen
        have HR3 := Lib.hid S.r3
        have x0 := S.blk.cell 0
        have x1 := S.blk.cell 1
        have x2 := S.blk.cell 2
        have f2 := S.blk.frozen 2
        simp only [List.getElem?_toArray, List.getElem?_cons_zero, List.getElem?_cons_succ] at x0 x1 x2
        have z0 := S.old.cell 0
        have z1 := S.old.cell 1
        have z2 := S.old.cell 2
        have zf0 := S.old.frozen 0
        have zf1 := S.old.frozen 1
        have zf2 := S.old.frozen 2
        simp only [List.getElem?_toArray, List.getElem?_cons_zero, List.getElem?_cons_succ] at z0 z1 z2
        have HSS := Lib.hid S
        have hne : ¬ w.heap.size = wr.heap.size := by omega
        have hne2 : ¬ wr.heap.size = w.heap.size := by omega
        clear S hS hhit hlk
        go_wp2_with (at_builtin; refine wpList_append_run rfl _ _ _ rfl rfl rfl HR3.out ?_; clear HR3)
        have q1 := (((HSS.out.old.far (p := ⟨wr.heap.size, 2, none⟩) hne (.slice (some ⟨g3, 0, none⟩) e.n c3)).set_ 0 (.string ⟨e.path.toArray⟩)).set_ 1 (.int .i64 e.kind)).set_ 2 (.slice (some ⟨g3, 0, none⟩) e.n c3)
        simp only [List.setIfInBounds_toArray, List.set_cons_zero, List.set_cons_succ] at q1
        have ha := HSS.out.apart
        have q2 := own_put (own_put (own_put (own_put (own_mono HSS.out.own (show w.heap.size ≤ wr.heap.size + 1 by omega)) (p := ⟨wr.heap.size, 2, none⟩) (by simp [Value.ownBlock]; omega) (.slice (some ⟨g3, 0, none⟩) e.n c3)) (p := ⟨w.heap.size, 0, none⟩) (by simp [Value.ownBlock]; omega) (.string ⟨e.path.toArray⟩)) (p := ⟨w.heap.size, 1, none⟩) (by simp [Value.ownBlock]; omega) (.int .i64 e.kind)) (p := ⟨w.heap.size, 2, none⟩) (by simp [Value.ownBlock]; omega) (.slice (some ⟨g3, 0, none⟩) e.n c3)
        have q3 := (((HSS.out.bel.setCell (p := ⟨wr.heap.size, 2, none⟩) (by simp; omega) (.slice (some ⟨g3, 0, none⟩) e.n c3)).setCell (p := ⟨w.heap.size, 0, none⟩) (Nat.le_refl _) (.string ⟨e.path.toArray⟩)).setCell (p := ⟨w.heap.size, 1, none⟩) (Nat.le_refl _) (.int .i64 e.kind)).setCell (p := ⟨w.heap.size, 2, none⟩) (Nat.le_refl _) (.slice (some ⟨g3, 0, none⟩) e.n c3)
        refine bodyPost_ret (res_ent2 (t := 4) (u := 5) (g := w.heap.size) rfl rfl q1 rfl) rfl ⟨⟨e.path, e.kind, e.data, some ⟨g3, 0, none⟩, e.n, c3⟩, by rw [HF.out]; rfl, by unfold foundE; rw [HF.out]; rfl, q2, q3⟩
    · obtain rfl : k = n := by omega
      have HF := Lib.hid (findE_none (l := l) (p := p) (fun j hj => hno.out j hj (by rw [← HLL.out]; exact hj)))
      have z0 := hG.out.cell 0
      have z1 := hG.out.cell 1
      have z2 := hG.out.cell 2
      have zf0 := hG.out.frozen 0
      have zf1 := hG.out.frozen 1
      have zf2 := hG.out.frozen 2
      simp only [List.getElem?_toArray, List.getElem?_cons_zero, List.getElem?_cons_succ] at z0 z1 z2
      go_wp2_with (fail)
      have q1 := ((hG.out.set_ 0 (.string ⟨#[]⟩)).set_ 1 (.int .i64 0)).set_ 2 (.slice none 0 0)
      simp only [List.setIfInBounds_toArray, List.set_cons_zero, List.set_cons_succ] at q1
      have q3 := ((hb.out.setCell (p := ⟨w.heap.size, 0, none⟩) (Nat.le_refl _) (.string ⟨#[]⟩)).setCell (p := ⟨w.heap.size, 1, none⟩) (Nat.le_refl _) (.int .i64 0)).setCell (p := ⟨w.heap.size, 2, none⟩) (Nat.le_refl _) (.slice none 0 0)
      refine bodyPost_ret (res_ent2 (t := 4) (u := 5) (g := w.heap.size) rfl rfl q1 rfl) rfl ⟨⟨[], 0, [], none, 0, 0⟩, by rw [HF.out]; rfl, by unfold foundE; rw [HF.out]; rfl, World.ownsRow_nil _ _ _ _, q3⟩
end Go.Proofs.YtdhlklidenfbeaaDoor
