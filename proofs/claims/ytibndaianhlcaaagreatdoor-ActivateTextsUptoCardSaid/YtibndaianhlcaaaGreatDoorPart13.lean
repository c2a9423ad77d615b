/- machine.unit: a unit copied. The walk of copied (bootjacklaw08). machine.Observe. -/
import Derived.Test.YtibndaianhlcaaaGreatDoorPart12
import Derived.Test.YtibndaianhlcaaaGreatDoorPart10
import Derived.Test.YtibndaianhlcaaaGreatDoorPart11
namespace Go.Proofs.YtibndaianhlcaaaGreatDoor
open Go.RowKit Go.Sort Go.Shelf
set_option linter.unusedVariables false
set_option linter.unusedSimpArgs false

theorem strs_one (l : List Txt) : ∀ u ∈ l.map encStr, u.oneCell' = true := by
  intro u hu
  obtain ⟨c, _, rfl⟩ := List.mem_map.1 hu
  rfl
/-- Texts copied into a block of their own: append([]string{}, l...). -/
structure Copied (W : World) (A : Option Addr) (n c : Nat) (l : List Txt) (g c' : Nat) (w' : World) : Prop where
  run : (Builtin.append_ #[23, 23] 23 #[.slice (some ⟨W.heap.size, 0, none⟩) 0 0, .slice A n c]).run Tryz.prog (W.alloc (.cells #[] 9)) = .ok (.slice (some ⟨g, 0, none⟩) n c') w'
  own : w'.ownsRow W.heap.size 9 1 (.slice (some ⟨g, 0, none⟩) n c') n (l.map encStr)
  ge : W.heap.size ≤ g
  lt : g < w'.heap.size
  bel : Below W.heap.size W w'
theorem strs_copy {W : World} {B : Nat} {A : Option Addr} {n c : Nat} {l : List Txt} (h : Slc W B 1 A n c (l.map encStr)) (hB : B ≤ W.heap.size) (hn : n ≤ 1000000000) : ∃ g c' w', Copied W A n c l g c' w' := by
  have ho : (W.alloc (.cells #[] 9)).ownsRow W.heap.size 9 1 (.slice (some ⟨W.heap.size, 0, none⟩) 0 0) 0 [] := World.ownsRow_made W #[] 0 (Nat.le_refl _) (Nat.zero_le _) rfl
  have hb1 : Below W.heap.size W (W.alloc (.cells #[] 9)) := (Below.refl _ W).alloc (Nat.le_refl _) _
  obtain ⟨i, hi, hz0, hz1, hz2⟩ := info_parts str_info
  obtain ⟨A3, c3, w3, r3, o3, g3, hv3⟩ := append_slc (P := Tryz.prog) (W.alloc (.cells #[] 9)) W.heap.size 23 23 _ i _ 1 16 Tryz.underlying23 hi hz0 hz1 hz2 rfl (by decide) _ 0 [] ho B A n c (l.map encStr) (h.below (hb1.mono hB)) (strs_one l) (by unfold maxLen; omega) (by omega) (by simp)
  rw [Nat.zero_add] at r3 o3
  rw [List.nil_append] at o3
  have hb3 := grown_below hb1 ho (by simp) g3
  rcases o3.2 with ⟨hnil, h0⟩ | ⟨gd, cap, cur, e1, e2, e3, _⟩
  · exfalso
    injection hnil with e1 e2 e3
    subst e1
    rcases hv3 with hv3 | hv3 <;> simp [Value.ownBlock] at hv3
  · injection e1 with e1
    subst e1
    exact ⟨gd, c3, w3, r3, o3, e2, (Array.getElem?_eq_some_iff.1 e3).1, hb3⟩
/-- What unit gives: the unit, in blocks of its own. -/
structure UnitOut (w w' : World) (x : Srv) (u : SV) : Prop where
  srv : u.srv = x
  own1 : w'.ownsRow w.heap.size 9 1 (.slice u.A u.n u.c) u.n (u.req.map encStr)
  own2 : w'.ownsRow w.heap.size 9 1 (.slice u.A2 u.n2 u.c2) u.n2 (u.aft.map encStr)
  ne : (Value.slice u.A u.n u.c).ownBlock ≠ (Value.slice u.A2 u.n2 u.c2).ownBlock
  bel : Below w.heap.size w w'
set_option maxRecDepth 100000 in
set_option maxHeartbeats 1000000 in
theorem unit_any {w : World} {B : Nat} (u : SV) (h1 : Slc w B 1 u.A u.n u.c (u.req.map encStr)) (h2 : Slc w B 1 u.A2 u.n2 u.c2 (u.aft.map encStr)) (hB : B ≤ w.heap.size) (hn : u.n ≤ 1000000000 ∧ u.n2 ≤ 1000000000) :
    Calls Tryz.prog 58 #[.agg (svArr u)] w fun e w' => ∃ u', e = .returned (.agg (svArr u')) ∧ UnitOut w w' u.srv u' := by
  obtain ⟨nm, st, rq, A, n, c, af, A2, n2, c2⟩ := u
  simp only at h1 h2 hn
  obtain ⟨W1, hW1⟩ : ∃ W1, W1 = (w.alloc (.cells #[.string ⟨nm.toArray⟩, .string ⟨st.toArray⟩, .slice A n c, .slice A2 n2 c2] 59)).alloc (.cells #[.string .empty, .string .empty, .slice none 0 0, .slice none 0 0] 59) := ⟨_, rfl⟩
  have hb1 : Below w.heap.size w W1 := by rw [hW1]; exact ((Below.refl _ w).alloc (Nat.le_refl _) _).alloc (by simp) _
  have hz1 : W1.heap.size = w.heap.size + 2 := by rw [hW1]; simp
  have hG1 : Blk W1 w.heap.size 59 #[.string ⟨nm.toArray⟩, .string ⟨st.toArray⟩, .slice A n c, .slice A2 n2 c2] := by rw [hW1]; exact (Blk.new _ _ _).alloc _
  have hR1 : Blk W1 (w.heap.size + 1) 59 #[.string .empty, .string .empty, .slice none 0 0, .slice none 0 0] := by
    rw [hW1]
    have := Blk.new (w.alloc (.cells #[.string ⟨nm.toArray⟩, .string ⟨st.toArray⟩, .slice A n c, .slice A2 n2 c2] 59)) 59 #[.string .empty, .string .empty, .slice none 0 0, .slice none 0 0]
    rwa [World.size_alloc] at this
  obtain ⟨g3, c3, w3, S3⟩ := strs_copy (h1.below (hb1.mono hB)) (by omega) hn.1
  have hG3 := hG1.below S3.bel hG1.lt
  have hR3 := hR1.below S3.bel hR1.lt
  have hG4 := hG3.set_ 2 (.slice (some ⟨g3, 0, none⟩) n c3)
  obtain ⟨W4, hW4⟩ : ∃ W4, W4 = w3.setCell ⟨w.heap.size, 2, none⟩ (.slice (some ⟨g3, 0, none⟩) n c3) := ⟨_, rfl⟩
  have hz4 : W4.heap.size = w3.heap.size := by rw [hW4]; simp [World.setCell]
  have hb4 : Below w.heap.size w W4 := by rw [hW4]; exact (hb1.trans (S3.bel.mono hb1.size)).setCell (Nat.le_refl _) _
  have hR4 : Blk W4 (w.heap.size + 1) 59 #[.string .empty, .string .empty, .slice none 0 0, .slice none 0 0] := by
    rw [hW4]; unfold Blk at hR3 ⊢; rw [Below.heap_setCell w3 _ _ _ (by simp)]; exact hR3
  have ho4 : W4.ownsRow w.heap.size 9 1 (.slice (some ⟨g3, 0, none⟩) n c3) n (rq.map encStr) := by
    rw [hW4]
    refine own_put ?_ (by simp only [Value.ownBlock]; intro e; injection e with e; have := S3.ge; omega) _
    exact ⟨S3.own.1, S3.own.2.imp id fun ⟨g', cap, cur, e, he, r⟩ => ⟨g', cap, cur, e, by omega, r⟩⟩
  rw [← hW4] at hG4
  obtain ⟨g5, c5, w5, S5⟩ := strs_copy (h2.below (hb4.mono hB)) (Nat.le_trans hB hb4.size) hn.2
  have hG5 := hG4.below S5.bel hG4.lt
  have hR5 := hR4.below S5.bel hR4.lt
  have ho5 := own_keep ho4 (fun k hk => S5.bel.block k (ho4.lt k hk).2)
  have hG6 := hG5.set_ 3 (.slice (some ⟨g5, 0, none⟩) n2 c5)
  have hb6 := (hb4.trans (S5.bel.mono hb4.size)).setCell (p := ⟨w.heap.size, 3, none⟩) (Nat.le_refl _) (.slice (some ⟨g5, 0, none⟩) n2 c5)
  have hg5 := S5.ge
  have hg3 := S3.lt
  have hg31 := S3.ge
  have hR6 : Blk (w5.setCell ⟨w.heap.size, 3, none⟩ (.slice (some ⟨g5, 0, none⟩) n2 c5)) (w.heap.size + 1) 59 #[.string .empty, .string .empty, .slice none 0 0, .slice none 0 0] := by
    unfold Blk at hR5 ⊢; rw [Below.heap_setCell w5 _ _ _ (by simp)]; exact hR5
  have ho6 := own_put (p := ⟨w.heap.size, 3, none⟩) ho5 (by simp only [Value.ownBlock]; intro e; injection e with e; omega) (.slice (some ⟨g5, 0, none⟩) n2 c5)
  have ho7 := own_put (p := ⟨w.heap.size, 3, none⟩) S5.own (by simp only [Value.ownBlock]; intro e; injection e with e; omega) (.slice (some ⟨g5, 0, none⟩) n2 c5)
  obtain ⟨W6, hW6⟩ : ∃ W6, W6 = w5.setCell ⟨w.heap.size, 3, none⟩ (.slice (some ⟨g5, 0, none⟩) n2 c5) := ⟨_, rfl⟩
  rw [← hW6] at hR6 ho6 ho7 hb6 hG6
  simp only [List.setIfInBounds_toArray, List.set_cons_zero, List.set_cons_succ] at hG6 hG4 hG5
  have HR := Lib.hid (hR6.set_ 0 (.string ⟨nm.toArray⟩))
  have HO : Hid (UnitOut w ((((W6.setCell ⟨w.heap.size + 1, 0, none⟩ (.string ⟨nm.toArray⟩)).setCell ⟨w.heap.size + 1, 1, none⟩ (.string ⟨st.toArray⟩)).setCell ⟨w.heap.size + 1, 2, none⟩ (.slice (some ⟨g3, 0, none⟩) n c3)).setCell ⟨w.heap.size + 1, 3, none⟩ (.slice (some ⟨g5, 0, none⟩) n2 c5)) ⟨nm, st, rq, af⟩ ⟨nm, st, rq, some ⟨g3, 0, none⟩, n, c3, af, some ⟨g5, 0, none⟩, n2, c5⟩) := by
    have hne3 : (Value.slice (some ⟨g3, 0, none⟩) n c3).ownBlock ≠ some (w.heap.size + 1) := by simp only [Value.ownBlock]; intro e; injection e with e; omega
    have hne5 : (Value.slice (some ⟨g5, 0, none⟩) n2 c5).ownBlock ≠ some (w.heap.size + 1) := by simp only [Value.ownBlock]; intro e; injection e with e; omega
    refine ⟨rfl, own_put (own_put (own_put (own_put ho6 hne3 _) hne3 _) hne3 _) hne3 _, ?_, by simp only [Value.ownBlock]; intro e; injection e with e; omega, (((hb6.setCell (by simp) _).setCell (by simp) _).setCell (by simp) _).setCell (by simp) _⟩
    have := own_put (own_put (own_put (own_put ho7 hne5 (p := ⟨w.heap.size + 1, 0, none⟩) (.string ⟨nm.toArray⟩)) hne5 (p := ⟨w.heap.size + 1, 1, none⟩) (.string ⟨st.toArray⟩)) hne5 (p := ⟨w.heap.size + 1, 2, none⟩) (.slice (some ⟨g3, 0, none⟩) n c3)) hne5 (p := ⟨w.heap.size + 1, 3, none⟩) (.slice (some ⟨g5, 0, none⟩) n2 c5)
    exact ⟨this.1, this.2.imp id fun ⟨g', cap, cur, e, he, r⟩ => ⟨g', cap, cur, e, by omega, r⟩⟩
  have HRES : Hid (Blk ((((W6.setCell ⟨w.heap.size + 1, 0, none⟩ (.string ⟨nm.toArray⟩)).setCell ⟨w.heap.size + 1, 1, none⟩ (.string ⟨st.toArray⟩)).setCell ⟨w.heap.size + 1, 2, none⟩ (.slice (some ⟨g3, 0, none⟩) n c3)).setCell ⟨w.heap.size + 1, 3, none⟩ (.slice (some ⟨g5, 0, none⟩) n2 c5)) (w.heap.size + 1) 59 (svArr ⟨nm, st, rq, some ⟨g3, 0, none⟩, n, c3, af, some ⟨g5, 0, none⟩, n2, c5⟩)) :=
    (((hR6.set_ 0 (.string ⟨nm.toArray⟩)).set_ 1 (.string ⟨st.toArray⟩)).set_ 2 (.slice (some ⟨g3, 0, none⟩) n c3)).set_ 3 (.slice (some ⟨g5, 0, none⟩) n2 c5)
  have r3 := S3.run
  have r5 := S5.run
  rw [hz1, hW1] at r3
  rw [hz4, hW4] at r5
  have HR3 := Lib.hid r3
  have HR5 := Lib.hid r5
  have HW6 := Lib.hid hW6
  have x0 := hG3.cell 0
  have x1 := hG3.cell 1
  have x2 := hG3.cell 2
  have x3 := hG3.cell 3
  have f2 := hG3.frozen 2
  have y0 := hG5.cell 0
  have y1 := hG5.cell 1
  have y2 := hG5.cell 2
  have y3 := hG5.cell 3
  have f3 := hG5.frozen 3
  have z0 := hG6.cell 0
  have z1 := hG6.cell 1
  have z2 := hG6.cell 2
  have z3 := hG6.cell 3
  have q0 := hR6.cell 0
  have q1 := hR6.cell 1
  have q2 := hR6.cell 2
  have q3 := hR6.cell 3
  have qf := hR6.frozen
  simp only [List.getElem?_toArray, List.getElem?_cons_zero, List.getElem?_cons_succ] at x0 x1 x2 x3 y0 y1 y2 y3 z0 z1 z2 z3 q0 q1 q2 q3
  rw [hW6] at z0 z1 z2 z3 q0 q1 q2 q3
  have qf0 := qf 0
  have qf1 := qf 1
  have qf2 := qf 2
  have qf3 := qf 3
  rw [hW6] at qf0 qf1 qf2 qf3
  rw [hW6] at HRES HO
  have l3 : w.heap.size < w3.heap.size := by have := S3.bel.size; omega
  have l5 : w.heap.size < w5.heap.size := by have := S5.bel.size; omega
  clear S3 S5 r3 r5 hW6 hG3 hG4 hG5 hG6 hR3 hR4 hR5 hR6 qf ho4 ho5 ho6 ho7 hb1 hb4 hb6 hW1 hW4 hG1 hR1 h1 h2 hz1 hz4 HR HW6
  unfold svArr
  go_enter Tryz.func58, Tryz.ntmps58
  go_wp2_with (first
    | (at_builtin; refine wpList_append_run rfl _ _ _ rfl rfl rfl HR3.out ?_; clear HR3)
    | (at_builtin; refine wpList_append_run rfl _ _ _ rfl rfl rfl HR5.out ?_; clear HR5))
  exact bodyPost_ret (results_aggr (t := 2) (g := w.heap.size + 1) rfl rfl Tryz.isAgg59 Tryz.sizeOf59 rfl HRES.out) rfl ⟨_, rfl, HO.out⟩
end Go.Proofs.YtibndaianhlcaaaGreatDoor
namespace Go.Proofs.YtibndaianhlcaaaGreatDoor
open Go.RowKit Go.Shelf
set_option linter.unusedVariables false
set_option linter.unusedSimpArgs false

theorem make_ents_mark (n c : Value) : Instr.makeSlice 22 n c = MakeS 22 n c := rfl
theorem make_ents (W : World) (base N : Nat) (hN : N ≤ 100000000) (hb : base ≤ W.heap.size) : ∃ w', Sem.run Tryz.prog (MakeS 22 (.int .i64 0) (.int .i64 (N : Int))) W = .ok (.slice (some ⟨W.heap.size, 0, none⟩) 0 N) w' ∧ w'.ownsRow base 35 3 (.slice (some ⟨W.heap.size, 0, none⟩) 0 N) 0 [] ∧ W.grownBy w' none := by
  obtain ⟨i, hi, hz, hs, hby⟩ := info_parts ent_info
  exact run_make_own (P := Tryz.prog) W base 22 35 i _ 3 Tryz.underlying22 hi hz hs .i64 .i64 N (by rw [hby]; omega) (by unfold maxLen; omega) hb

/-- One round of copied: the bytes are copied, the entry is put behind. -/
structure CopyStep (wr : World) (base : Nat) (A' : Option Addr) (k c' : Nat) (es : List EV) (e : EV) (W2 w3 : World) (g3 : Nat) (c3 : Nat) (A6 : Option Addr) (c6 : Nat) (w6 : World) : Prop where
  r3 : (Builtin.append_ #[33, 33] 33 #[.slice (some ⟨wr.heap.size + 1, 0, none⟩) 0 0, .slice e.A e.n e.c]).run Tryz.prog ((wr.alloc (.cells #[.string ⟨e.path.toArray⟩, .int .i64 e.kind, .slice e.A e.n e.c] 35)).alloc (.cells #[] 5)) = .ok (.slice (some ⟨g3, 0, none⟩) e.n c3) w3
  blk : Blk w3 wr.heap.size 35 #[.string ⟨e.path.toArray⟩, .int .i64 e.kind, .slice e.A e.n e.c]
  r6 : (Builtin.append_ #[22, 22] 22 #[.slice A' k c', .slice (some ⟨w3.heap.size, 0, none⟩) 1 1]).run Tryz.prog ((w3.setCell ⟨wr.heap.size, 2, none⟩ (.slice (some ⟨g3, 0, none⟩) e.n c3)).alloc (.cells #[.string ⟨e.path.toArray⟩, .int .i64 e.kind, .slice (some ⟨g3, 0, none⟩) e.n c3] 35)) = .ok (.slice A6 (k + 1) c6) w6
  own : OwnEnts w6 base (.slice A6 (k + 1) c6) (k + 1) (es ++ [⟨e.path, e.kind, e.data, some ⟨g3, 0, none⟩, e.n, c3⟩])
  bel3 : Below wr.heap.size wr w3
set_option maxRecDepth 100000 in
theorem copy_step {w wr : World} {A' : Option Addr} {k c' : Nat} {es : List EV} {B : Nat} (h : OwnEnts wr w.heap.size (.slice A' k c') k es) (hb : Below w.heap.size w wr) (e : EV) (hS : Slc wr B 1 e.A e.n e.c (e.data.map bv)) (hB : B ≤ wr.heap.size) (hk : k ≤ 1000000000) (hn : e.n ≤ 1000000000) :
    ∃ W2 w3 g3 c3 A6 c6 w6, CopyStep wr w.heap.size A' k c' es e W2 w3 g3 c3 A6 c6 w6 ∧ Below w.heap.size w w6 := by
  obtain ⟨W1, hW1⟩ : ∃ W1, W1 = wr.alloc (.cells #[.string ⟨e.path.toArray⟩, .int .i64 e.kind, .slice e.A e.n e.c] 35) := ⟨_, rfl⟩
  have hb1 : Below wr.heap.size wr W1 := by rw [hW1]; exact (Below.refl _ wr).alloc (Nat.le_refl _) _
  have hz1 : W1.heap.size = wr.heap.size + 1 := by rw [hW1]; simp
  have hG1 : Blk W1 wr.heap.size 35 #[.string ⟨e.path.toArray⟩, .int .i64 e.kind, .slice e.A e.n e.c] := by rw [hW1]; exact Blk.new _ _ _
  have ho2 := empty_own W1 W1.heap.size (Nat.le_refl _)
  have hb2 : Below W1.heap.size W1 (W1.alloc (.cells #[] 5)) := (Below.refl _ W1).alloc (Nat.le_refl _) _
  obtain ⟨A3, c3, w3, r3, o3, g3, hv3⟩ := append_bytes (W1.alloc (.cells #[] 5)) W1.heap.size _ 0 [] ho2 B e.A e.n e.c e.data ((hS.below (hb1.mono hB)).below (hb2.mono (by rw [hz1]; omega))) (by omega) (by simp)
  rw [Nat.zero_add] at r3 o3
  rw [List.nil_append] at o3
  have hb3 := grown_below hb2 ho2 (by simp) g3
  -- the new bytes lie in a block of their own
  obtain ⟨gd, hA3, hgd, hgd2⟩ : ∃ gd, A3 = some ⟨gd, 0, none⟩ ∧ W1.heap.size ≤ gd ∧ gd < w3.heap.size := by
    rcases o3.2 with ⟨hnil, h0⟩ | ⟨gd, cap, cur, e1, e2, e3, _⟩
    · exfalso
      injection hnil with e1 e2 e3
      subst e1
      rcases hv3 with hv3 | hv3 <;> simp [Value.ownBlock] at hv3
    · injection e1 with e1
      exact ⟨gd, e1, e2, (Array.getElem?_eq_some_iff.1 e3).1⟩
  subst hA3
  have hG3 := hG1.below hb3 hG1.lt
  have hS3 := own_slc_of o3
  have hbw3 : Below wr.heap.size wr w3 := hb1.trans (hb3.mono (by rw [hz1]; omega))
  have h3 := h.below hbw3
  have hob : (Value.slice A' k c').ownBlock ≠ some wr.heap.size := fun e => Nat.lt_irrefl _ (h.own.lt _ e).2
  have hog : (Value.slice A' k c').ownBlock ≠ some gd := fun e => by have := (h.own.lt _ e).2; omega
  have h4 : OwnEnts (w3.setCell ⟨wr.heap.size, 2, none⟩ (.slice (some ⟨gd, 0, none⟩) e.n c3)) w.heap.size (.slice A' k c') k es :=
    h3.set_ (by simpa using hob) (fun x hx g hg => by
      obtain ⟨g', h1, _, h5, _⟩ := h.data x hx
      rw [hg] at h1
      injection h1 with h1
      injection h1 with h1
      simp only
      omega) _
  have hsz4 : (w3.setCell ⟨wr.heap.size, 2, none⟩ (.slice (some ⟨gd, 0, none⟩) e.n c3)).heap.size = w3.heap.size := by simp [World.setCell]
  have hS4 : Slc (w3.setCell ⟨wr.heap.size, 2, none⟩ (.slice (some ⟨gd, 0, none⟩) e.n c3)) w3.heap.size 1 (some ⟨gd, 0, none⟩) e.n c3 (e.data.map bv) := by
    refine ⟨hS3.len, hS3.le, hS3.cmax, fun hn => ?_⟩
    obtain ⟨b, off, e1, hb, hc⟩ := hS3.at_ hn
    refine ⟨b, off, e1, hb, fun j u hu => ?_⟩
    injection e1 with e1
    injection e1 with e1
    rw [World.cell?_of_block (w := w3) (a := ⟨b, off + j, none⟩) (Below.heap_setCell w3 _ _ b (by simp only; omega))]
    exact hc j u hu
  have hbw4 : Below w.heap.size w (w3.setCell ⟨wr.heap.size, 2, none⟩ (.slice (some ⟨gd, 0, none⟩) e.n c3)) := (hb.trans (hbw3.mono hb.size)).setCell (p := ⟨wr.heap.size, 2, none⟩) hb.size _
  obtain ⟨A6, c6, w6, r6, o6, g6, _⟩ := h4.append ⟨e.path, e.kind, e.data, some ⟨gd, 0, none⟩, e.n, c3⟩ (by rw [hsz4]; exact hS4) ⟨gd, rfl, by have := hb.size; omega, by rw [hsz4]; exact hgd2, hog⟩ (fun g hg => by injection hg with hg; injection hg with hg; subst hg; exact (FreeB.own o3).set_ _ _) hk (by rw [hsz4]; exact Nat.le_trans hb.size hbw3.size)
  rw [hsz4] at r6
  refine ⟨W1, w3, gd, c3, A6, c6, w6, ⟨by rw [hW1, World.size_alloc] at r3; exact r3, hG3, r6, o6, hbw3⟩, ?_⟩
  exact grown_below (hbw4.alloc hbw4.size _) (h4.own.alloc _) (by have := hbw4.size; simp; omega) g6

end Go.Proofs.YtibndaianhlcaaaGreatDoor
namespace Go.Proofs.YtibndaianhlcaaaGreatDoor
open Go.RowKit Go.Sort Go.Shelf
set_option linter.unusedVariables false
set_option linter.unusedSimpArgs false

theorem below_both {B : Nat} {a b : World} (h : Below B a b) (p : Addr) (v : Value) : Below B (a.setCell p v) (b.setCell p v) := by
  refine ⟨h.os, h.tape, h.output, by simpa [World.setCell] using h.size, fun k hk => ?_⟩
  have h1 := h.block k hk
  simp only [World.setCell, Array.getElem?_modify]
  rw [h1]
/-- A variable of the call's own, with its result: the world that the rest grows from. -/
structure ObsW (w W : World) (a b c : Value) : Prop where
  size : W.heap.size = w.heap.size + 2
  bel : Below w.heap.size w W
  res : Blk W w.heap.size 28 #[.slice none 0 0, .slice none 0 0, .slice none 0 0]
  var : Blk W (w.heap.size + 1) 28 #[a, b, c]
theorem ObsW.new (w : World) : ObsW w ((w.alloc (.cells #[.slice none 0 0, .slice none 0 0, .slice none 0 0] 28)).alloc (.cells #[.slice none 0 0, .slice none 0 0, .slice none 0 0] 28)) (.slice none 0 0) (.slice none 0 0) (.slice none 0 0) := by
  refine ⟨by simp, ((Below.refl _ w).alloc (Nat.le_refl _) _).alloc (by simp) _, (Blk.new _ _ _).alloc _, ?_⟩
  have := Blk.new (w.alloc (.cells #[.slice none 0 0, .slice none 0 0, .slice none 0 0] 28)) 28 #[.slice none 0 0, .slice none 0 0, .slice none 0 0]
  rwa [World.size_alloc] at this
theorem ObsW.set_ {w W : World} {a b c : Value} (h : ObsW w W a b c) (i : Nat) (v : Value) : ObsW w (W.setCell ⟨w.heap.size + 1, i, none⟩ v) ((#[a, b, c].setIfInBounds i v).getD 0 undef) ((#[a, b, c].setIfInBounds i v).getD 1 undef) ((#[a, b, c].setIfInBounds i v).getD 2 undef) := by
  refine ⟨by simpa [World.setCell] using h.size, h.bel.setCell (by simp) _, ?_, ?_⟩
  · have := h.res
    unfold Blk at this ⊢
    rw [Below.heap_setCell W _ _ _ (by simp)]
    exact this
  · have := h.var.set_ i v
    have e : (#[a, b, c].setIfInBounds i v) = #[(#[a, b, c].setIfInBounds i v).getD 0 undef, (#[a, b, c].setIfInBounds i v).getD 1 undef, (#[a, b, c].setIfInBounds i v).getD 2 undef] := by
      apply Array.ext
      · simp
      · intro j h1 h2
        simp at h1
        rcases j with _ | _ | _ | j
        · simp
        · simp
        · simp
        · omega
    rwa [e] at this
theorem ObsW.facts {w W wr : World} {a b c : Value} (h : ObsW w W a b c) (hb : Below W.heap.size W wr) : wr.cell? ⟨w.heap.size + 1, 0, none⟩ = some a ∧ wr.cell? ⟨w.heap.size + 1, 1, none⟩ = some b ∧ wr.cell? ⟨w.heap.size + 1, 2, none⟩ = some c ∧ (∀ i, wr.frozen? ⟨w.heap.size + 1, i, none⟩ = false) ∧ w.heap.size + 2 ≤ wr.heap.size := by
  have hB := h.var.below hb h.var.lt
  exact ⟨hB.cell 0, hB.cell 1, hB.cell 2, hB.frozen, by have := hb.size; have := h.size; omega⟩
/-- The machine while it is observed. -/
theorem ObsW.bel2 {w W wr : World} {a b c : Value} (h : ObsW w W a b c) (hb : Below W.heap.size W wr) : Below w.heap.size w wr := h.bel.trans (hb.mono (by have := h.size; omega))
theorem MachV.entsAt {w : World} {F : Nat → Prop} {g : Nat} {s : Mach} {fA : Option Addr} {fn fc : Nat} {es : List EV} {uA : Option Addr} {un uc : Nat} {nA : Option Addr} {nn nc : Nat} {us : List SV} {pA : Option Addr} {pn pc : Nat} (h : MachV w F g s fA fn fc es uA un uc nA nn nc us pA pn pc) : EntsAt w w.heap.size fA fn fc es :=
  ⟨h.files.slc', h.flen.1, fun e he => (h.data e he).slc'⟩
/-- Units of the call's own. -/
structure OwnU (w : World) (F : Nat → Prop) (A : Option Addr) (n c : Nat) (us : List SV) : Prop where
  row : Row w F 59 4 (.slice A n c) n (us.flatMap svCells)
  req : ∀ u ∈ us, Row w F 9 1 (.slice u.A u.n u.c) u.n (u.req.map encStr)
  aft : ∀ u ∈ us, Row w F 9 1 (.slice u.A2 u.n2 u.c2) u.n2 (u.aft.map encStr)
theorem OwnU.nil (w : World) (F : Nat → Prop) : OwnU w F none 0 0 [] := ⟨Row.nil _ _ _ _, (fun u h => by cases h), (fun u h => by cases h)⟩
theorem OwnU.len {w : World} {F : Nat → Prop} {A : Option Addr} {n c : Nat} {us : List SV} (h : OwnU w F A n c us) : us.length = n := by
  have h1 := h.row.own.1
  rw [flatMap_len svCells 4 us (fun o _ => svCells_length o)] at h1
  omega
theorem OwnU.keep {w w' : World} {F : Nat → Prop} {A : Option Addr} {n c : Nat} {us : List SV} (h : OwnU w F A n c us) (hb : ∀ k, k < w.heap.size → F k → w'.heap[k]? = w.heap[k]?) : OwnU w' F A n c us := by
  have hr : ∀ {e : TypeId} {sz n : Nat} {v : Value} {xs : List Value}, Row w F e sz v n xs → Row w' F e sz v n xs := fun hR => hR.kept (fun k hk => hb k (hR.own.lt k hk).2 (hR.foot k hk)) hR.foot
  exact ⟨hr h.row, fun u hu => hr (h.req u hu), fun u hu => hr (h.aft u hu)⟩
theorem OwnU.append {w : World} {F : Nat → Prop} {A : Option Addr} {n c : Nat} {us : List SV} (h : OwnU w F A n c us) (u : SV) (h1 : Row w F 9 1 (.slice u.A u.n u.c) u.n (u.req.map encStr)) (h2 : Row w F 9 1 (.slice u.A2 u.n2 u.c2) u.n2 (u.aft.map encStr)) (hn : n ≤ 1000000000) :
    ∃ A' c' w', (Builtin.append_ #[24, 24] 24 #[.slice A n c, .slice (some ⟨w.heap.size, 0, none⟩) 1 1]).run Tryz.prog (w.alloc (.cells (svArr u) 59)) = .ok (.slice A' (n + 1) c') w' ∧
      OwnU w' (Fn F w w') A' (n + 1) c' (us ++ [u]) ∧ w.grownBy w' (Value.slice A n c).ownBlock := by
  obtain ⟨i, hi, hz0, hz1, hz2⟩ := info_parts unit_info
  have hS := slc_new w 59 (0, 0) (svArr u) (sz := 4) (n := 1) (c := 1) rfl (Nat.le_refl _) (by decide)
  obtain ⟨A', c', w', r1, r2, r3, r4⟩ := append_slc (P := Tryz.prog) (w.alloc (.cells (svArr u) 59)) 0 24 24 59 i _ 4 80 Tryz.underlying24 hi hz0 hz1 hz2 rfl (by decide) _ n (us.flatMap svCells) (h.row.own.alloc _) _ _ 1 1 (svCells u) hS (fun v hv => svCells_one [u] v (by simpa using hv)) (by unfold maxLen; omega) (by omega) (Nat.zero_le _)
  have hg : w.grownBy w' (Value.slice A n c).ownBlock := ⟨r3.os, r3.tape, r3.output, Nat.le_trans (by simp) r3.size, fun k hk hne => by rw [r3.block k (by simp; omega) hne, Below.heap_alloc w _ k hk]⟩
  have hot := grown_other hg (row_typed h.row) (e := 9) (by decide)
  refine ⟨A', c', w', r1, ⟨⟨?_, fun k hk => ?_⟩, fun x hx => ?_, fun x hx => ?_⟩, hg⟩
  · rw [List.flatMap_append, List.flatMap_cons, List.flatMap_nil, List.append_nil]
    exact r2
  · rcases r4 with r4 | r4
    · rw [r4] at hk
      exact .inl (h.row.foot k hk)
    · have hl := (r2.lt k hk).2
      rw [r4] at hk
      injection hk with hk
      simp at hk
      exact .inr ⟨by omega, hl⟩
  · rcases List.mem_append.1 hx with hx | hx
    · exact ((h.req x hx).other hot).wide (fn_wide _ _ _)
    · rw [List.mem_singleton.1 hx]; exact (h1.other hot).wide (fn_wide _ _ _)
  · rcases List.mem_append.1 hx with hx | hx
    · exact ((h.aft x hx).other hot).wide (fn_wide _ _ _)
    · rw [List.mem_singleton.1 hx]; exact (h2.other hot).wide (fn_wide _ _ _)
theorem OwnEnts.other {w w' : World} {base : Nat} {v : Value} {n : Nat} {es : List EV} (h : OwnEnts w base v n es) (hs : w.heap.size ≤ w'.heap.size)
    (hb1 : ∀ (k : Nat) (cur : Array Value) (fr : Nat × Nat), w.heap[k]? = some (Obj.cells cur 35 fr) → w'.heap[k]? = w.heap[k]?) (hb2 : ∀ (k : Nat) (cur : Array Value) (fr : Nat × Nat), w.heap[k]? = some (Obj.cells cur 5 fr) → w'.heap[k]? = w.heap[k]?) : OwnEnts w' base v n es := by
  refine ⟨⟨h.own.1, ?_⟩, fun e he => ?_, fun e he => ?_, fun e he g hg => ?_⟩
  · rcases h.own.2 with hn | ⟨g, cap, cur, rfl, h1, h2, rest⟩
    · exact .inl hn
    · exact .inr ⟨g, cap, cur, rfl, h1, by rw [hb1 g cur (0, 0) h2]; exact h2, rest⟩
  · obtain ⟨g, g1, _⟩ := h.data e he
    obtain ⟨cur, hc⟩ := h.free e he g g1
    have hx := h.slc e he
    refine ⟨hx.len, hx.le, hx.cmax, fun hn => ?_⟩
    obtain ⟨b, off, e1, hlt, hcc⟩ := hx.at_ hn
    rw [g1] at e1
    injection e1 with e1
    injection e1 with e1 e2
    subst e1 e2
    exact ⟨g, 0, g1, by omega, fun j u hu => by rw [World.cell?_of_block (w := w) (a := ⟨g, 0 + j, none⟩) (hb2 g cur (0, 0) hc)]; exact hcc j u hu⟩
  · obtain ⟨g, g1, g2, g3, g4⟩ := h.data e he
    exact ⟨g, g1, g2, by omega, g4⟩
  · obtain ⟨cur, hc⟩ := h.free e he g hg
    exact ⟨cur, (hb2 g cur (0, 0) hc).trans hc⟩
/-- One unit more is told. -/
structure UnitStep (w W wr w9 : World) (vf : Value) (nf : Nat) (es : List EV) (vu : Value) (nu : Nat) (xs : List Value) (A3 : Option Addr) (j c3 : Nat) (us : List SV) (u : SV) (A4 : Option Addr) (c4 : Nat) (w10 : World) : Prop where
  run : (Builtin.append_ #[24, 24] 24 #[.slice A3 j c3, .slice (some ⟨w9.heap.size, 0, none⟩) 1 1]).run Tryz.prog (w9.alloc (.cells (svArr u) 59)) = .ok (.slice A4 (j + 1) c4) w10
  units : OwnU w10 (fun k => w.heap.size + 2 ≤ k) A4 (j + 1) c4 (us ++ [u])
  files : OwnEnts w10 (w.heap.size + 2) vf nf es
  users : Row w10 (fun k => w.heap.size ≤ k) 9 1 vu nu xs
  bel9 : Below W.heap.size W w9
  bel : Below W.heap.size W w10
theorem obs_unit {w W wr w9 : World} {a b : Value} {A3 : Option Addr} {j c3 : Nat} {vf : Value} {nf : Nat} {es : List EV} {vu : Value} {nu : Nat} {xs : List Value} {us : List SV} {u u' : SV} {x : Srv} (hO : ObsW w W a b (.slice A3 j c3)) (hb : Below W.heap.size W wr) (ho : OwnEnts wr (w.heap.size + 2) vf nf es) (hU : Row wr (fun k => w.heap.size ≤ k) 9 1 vu nu xs)
    (hV : OwnU wr (fun k => w.heap.size + 2 ≤ k) A3 j c3 us) (hout : UnitOut (wr.alloc (.cells (svArr u) 59)).drew w9 x u') (hj : j ≤ 1000000000) :
    ∃ A4 c4 w10, UnitStep w W wr w9 vf nf es vu nu xs A3 j c3 us u' A4 c4 w10 := by
  have hsz := hO.size
  have hb1 : Below wr.heap.size wr (wr.alloc (.cells (svArr u) 59)).drew := ((Below.refl _ wr).alloc (Nat.le_refl _) _).drew
  have hz1 : (wr.alloc (.cells (svArr u) 59)).drew.heap.size = wr.heap.size + 1 := by simp
  have hb9 : Below wr.heap.size wr w9 := hb1.trans (hout.bel.mono (by rw [hz1]; omega))
  have hwr := hb.size
  have own : ∀ {v : Value} {n : Nat} {xs : List Value}, w9.ownsRow (wr.alloc (.cells (svArr u) 59)).drew.heap.size 9 1 v n xs → Row w9 (fun k => w.heap.size + 2 ≤ k) 9 1 v n xs := fun hr =>
    ⟨⟨hr.1, hr.2.imp id fun ⟨g, cap, cur, e, _, r⟩ => ⟨g, cap, cur, e, Nat.zero_le _, r⟩⟩, fun k hk => by have := (hr.lt k hk).1; show w.heap.size + 2 ≤ k; omega⟩
  have hV9 := hV.keep (w' := w9) (fun k hk _ => hb9.block k hk)
  obtain ⟨A4, c4, w10, r, h2, hg⟩ := hV9.append u' (own hout.own1) (own hout.own2) hj
  have hty := row_typed hV9.row
  have ho9 := ho.below hb9
  have hU9 : Row w9 (fun k => w.heap.size ≤ k) 9 1 vu nu xs := hU.kept (fun k hk => hb9.block k (hU.own.lt k hk).2) hU.foot
  have hbW9 : Below W.heap.size W w9 := hb.trans (hb9.mono hwr)
  refine ⟨A4, c4, w10, r, ?_, ho9.other hg.size (grown_other hg hty (by decide)) (grown_other hg hty (by decide)), hU9.other (grown_other hg hty (by decide)), hbW9, hbW9.grown hg hbW9.size (fun q hq => by have h3 : w.heap.size + 2 ≤ q := hV9.row.foot q hq; omega)⟩
  have hwide : ∀ k, Fn (fun k => w.heap.size + 2 ≤ k) w9 w10 k → w.heap.size + 2 ≤ k := fun k hk => by
    rcases hk with h3 | h3
    · exact h3
    · have := hb9.size; omega
  exact ⟨h2.row.wide hwide, fun v hv => (h2.req v hv).wide hwide, fun v hv => (h2.aft v hv).wide hwide⟩
/-- What Observe tells: all in blocks of its own. -/
structure ObsOut (w w' : World) (s : Mach) (A : Option Addr) (n c : Nat) (es : List EV) (A2 : Option Addr) (n2 c2 : Nat) (A3 : Option Addr) (n3 c3 : Nat) (us : List SV) : Prop where
  files : OwnEnts w' w.heap.size (.slice A n c) n es
  ents : es.map EV.ent = s.files
  users : Row w' (fun k => w.heap.size ≤ k) 9 1 (.slice A2 n2 c2) n2 (s.users.map encStr)
  units : OwnU w' (fun k => w.heap.size ≤ k) A3 n3 c3 us
  srvs : us.map SV.srv = s.units
  bel : Below w.heap.size w w'
theorem OwnEnts.lower {w : World} {base b : Nat} {v : Value} {n : Nat} {es : List EV} (h : OwnEnts w base v n es) (hb : b ≤ base) : OwnEnts w b v n es :=
  ⟨⟨h.own.1, h.own.2.imp id fun ⟨g, cap, cur, e, he, r⟩ => ⟨g, cap, cur, e, by omega, r⟩⟩, h.slc, fun e he => by obtain ⟨g, g1, g2, g3, g4⟩ := h.data e he; exact ⟨g, g1, by omega, g3, g4⟩, h.free⟩
theorem OwnU.set_ {w : World} {F : Nat → Prop} {A : Option Addr} {n c : Nat} {us : List SV} (h : OwnU w F A n c us) {p : Addr} (hp : ¬ F p.block) (v : Value) : OwnU (w.setCell p v) F A n c us :=
  h.keep fun k _ hk => Below.heap_setCell _ _ _ _ (by rintro rfl; exact hp hk)
theorem OwnU.wide {w : World} {F G : Nat → Prop} {A : Option Addr} {n c : Nat} {us : List SV} (h : OwnU w F A n c us) (hg : ∀ k, F k → G k) : OwnU w G A n c us := ⟨h.row.wide hg, fun u hu => (h.req u hu).wide hg, fun u hu => (h.aft u hu).wide hg⟩
theorem obs_end {w W wr : World} {s : Mach} {a b c : Value} {A1 : Option Addr} {n1 c1 : Nat} {es : List EV} {A2 : Option Addr} {n2 c2 : Nat} {A3 : Option Addr} {n3 c3 : Nat} {us : List SV} (hO : ObsW w W a b c) (hb : Below W.heap.size W wr) (hf : OwnEnts wr (w.heap.size + 2) (.slice A1 n1 c1) n1 es) (he : es.map EV.ent = s.files)
    (hu : Row wr (fun k => w.heap.size ≤ k) 9 1 (.slice A2 n2 c2) n2 (s.users.map encStr)) (hv : OwnU wr (fun k => w.heap.size + 2 ≤ k) A3 n3 c3 us) (hs : us.map SV.srv = s.units) (x y z : Value) :
    ObsOut w (((wr.setCell ⟨w.heap.size, 0, none⟩ x).setCell ⟨w.heap.size, 1, none⟩ y).setCell ⟨w.heap.size, 2, none⟩ z) s A1 n1 c1 es A2 n2 c2 A3 n3 c3 us := by
  have hR := hO.res.below hb hO.res.lt
  have key : ∀ {w' : World} (i : Nat) (x : Value), OwnEnts w' (w.heap.size + 2) (.slice A1 n1 c1) n1 es → OwnEnts (w'.setCell ⟨w.heap.size, i, none⟩ x) (w.heap.size + 2) (.slice A1 n1 c1) n1 es := fun {w'} i x ho6 =>
    ho6.set_ (fun e1 => by have h9 : w.heap.size + 2 ≤ w.heap.size := (ho6.own.lt _ e1).1; omega) (fun x hx q hq => by obtain ⟨q', h1, h2, _⟩ := ho6.data x hx; rw [hq] at h1; injection h1 with h1; injection h1 with h1; simp only; omega) _
  have hn : ∀ i, ¬ (fun k => w.heap.size + 2 ≤ k) (⟨w.heap.size, i, none⟩ : Addr).block := fun i h => by have h9 : w.heap.size + 2 ≤ w.heap.size := h; omega
  exact ⟨(key 2 z (key 1 y (key 0 x hf))).lower (by omega), he, ((hu.other (set_other hR (by decide) 0 x)).other (set_other (hR.set_ 0 x) (by decide) 1 y)).other (set_other ((hR.set_ 0 x).set_ 1 y) (by decide) 2 z),
    (((hv.set_ (hn 0) x).set_ (hn 1) y).set_ (hn 2) z).wide (fun k hk => by have h9 : w.heap.size + 2 ≤ k := hk; omega), hs, (((hO.bel2 hb).setCell (Nat.le_refl _) _).setCell (Nat.le_refl _) _).setCell (Nat.le_refl _) _⟩
end Go.Proofs.YtibndaianhlcaaaGreatDoor
