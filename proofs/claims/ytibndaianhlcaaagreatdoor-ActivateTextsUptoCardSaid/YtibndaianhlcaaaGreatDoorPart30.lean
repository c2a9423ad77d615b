/- activate.file walked: a file's step is read. activate.file, where all is well. -/
import Derived.Test.YtibndaianhlcaaaGreatDoorPart7
import Derived.Test.YtibndaianhlcaaaGreatDoorPart8
import Derived.Test.YtibndaianhlcaaaGreatDoorPart25
import Derived.Test.YtibndaianhlcaaaGreatDoorPart11
import Derived.Test.YtibndaianhlcaaaGreatDoorPart29
namespace Go.Proofs.YtibndaianhlcaaaGreatDoor
open Go.RowKit Go.Sort Go.Shelf
set_option linter.unusedVariables false
set_option linter.unusedSimpArgs false

/-- A file's step, as it is read; a step that may not be where it cannot be read. -/
def fileP (name rest : Txt) : ActP × Txt :=
  match splitN 32 name with
  | [k, p, d] => match (if d.length ≤ 4 then numI d else none) with
    | some n => if n ≤ rest.length then (⟨4, p, ⟨p, if k = [108] then 3 else 1, rest.take n⟩, srv0⟩, rest.drop n) else (⟨0, [], ent0, srv0⟩, [])
    | none => (⟨0, [], ent0, srv0⟩, [])
  | _ => (⟨0, [], ent0, srv0⟩, [])
theorem readA_file (out : List ActP) (rest : Txt) (h : frontT 32 (frontT 10 rest) = wFile) : readA numI out rest = some (out ++ [(fileP (afterT 32 (frontT 10 rest)) (afterT 10 rest)).1], (fileP (afterT 32 (frontT 10 rest)) (afterT 10 rest)).2) := by
  unfold readA
  simp only [h]
  have e1 : wFile ≠ wStop ∧ wFile ≠ wRemove ∧ wFile ≠ wDrop ∧ wFile ≠ wUser ∧ wFile ≠ wStart := by decide
  rw [if_neg e1.1, if_neg e1.2.1, if_neg e1.2.2.1, if_neg e1.2.2.2.1, if_neg e1.2.2.2.2, if_pos trivial]
  unfold fileP
  generalize splitN 32 (afterT 32 (frontT 10 rest)) = s
  rcases s with _ | ⟨k, _ | ⟨p, _ | ⟨d, _ | ⟨x, s⟩⟩⟩⟩
  · rfl
  · rfl
  · rfl
  · simp only
    generalize (if d.length ≤ 4 then numI d else none) = o
    cases o with
    | none => rfl
    | some n =>
      simp only
      split <;> rfl
  · rfl
def wordsC (s : Txt) : Array Value := ((splitN 32 s).map encStr).toArray
theorem split32_any (w : World) (s : Txt) (hs : s.length ≤ 100000000) (hm : MaxOk w) :
    Calls Tryz.prog 103 #[.string ⟨s.toArray⟩, .string ⟨#[32]⟩] w fun e w' => e = .returned (.slice (some ⟨w.heap.size, 0, none⟩) (splitN 32 s).length (splitN 32 s).length) ∧ w' = w.alloc (.cells (wordsC s) 9) := by
  obtain ⟨m, hm⟩ := hm.now
  have h := Tryz.strings_Split ⟨s.toArray⟩ ⟨#[32]⟩ m w (by rw [show (ByteArray.mk s.toArray).size = s.length from rfl]; omega) hm (by decide)
  rw [← wsplit_length, wsplit_cells, wsplit_eq] at h
  exact h
/-- Nine cells are written. -/
def set9 (W : World) (g : Nat) (v0 v1 v2 v3 v4 v5 v6 v7 v8 : Value) : World :=
  ((((((((W.setCell ⟨g, 0, none⟩ v0).setCell ⟨g, 1, none⟩ v1).setCell ⟨g, 2, none⟩ v2).setCell ⟨g, 3, none⟩ v3).setCell ⟨g, 4, none⟩ v4).setCell ⟨g, 5, none⟩ v5).setCell ⟨g, 6, none⟩ v6).setCell ⟨g, 7, none⟩ v7).setCell ⟨g, 8, none⟩ v8
theorem set9_blk {W : World} {g : Nat} {t : TypeId} {x0 x1 x2 x3 x4 x5 x6 x7 x8 : Value} (h : Blk W g t #[x0, x1, x2, x3, x4, x5, x6, x7, x8]) (v0 v1 v2 v3 v4 v5 v6 v7 v8 : Value) : Blk (set9 W g v0 v1 v2 v3 v4 v5 v6 v7 v8) g t #[v0, v1, v2, v3, v4, v5, v6, v7, v8] := by
  have h0 : Blk (W.setCell ⟨g, 0, none⟩ v0) g t #[v0, x1, x2, x3, x4, x5, x6, x7, x8] := h.set_ 0 v0
  have h1 : Blk ((W.setCell ⟨g, 0, none⟩ v0).setCell ⟨g, 1, none⟩ v1) g t #[v0, v1, x2, x3, x4, x5, x6, x7, x8] := h0.set_ 1 v1
  have h2 : Blk (((W.setCell ⟨g, 0, none⟩ v0).setCell ⟨g, 1, none⟩ v1).setCell ⟨g, 2, none⟩ v2) g t #[v0, v1, v2, x3, x4, x5, x6, x7, x8] := h1.set_ 2 v2
  have h3 : Blk ((((W.setCell ⟨g, 0, none⟩ v0).setCell ⟨g, 1, none⟩ v1).setCell ⟨g, 2, none⟩ v2).setCell ⟨g, 3, none⟩ v3) g t #[v0, v1, v2, v3, x4, x5, x6, x7, x8] := h2.set_ 3 v3
  have h4 : Blk (((((W.setCell ⟨g, 0, none⟩ v0).setCell ⟨g, 1, none⟩ v1).setCell ⟨g, 2, none⟩ v2).setCell ⟨g, 3, none⟩ v3).setCell ⟨g, 4, none⟩ v4) g t #[v0, v1, v2, v3, v4, x5, x6, x7, x8] := h3.set_ 4 v4
  have h5 : Blk ((((((W.setCell ⟨g, 0, none⟩ v0).setCell ⟨g, 1, none⟩ v1).setCell ⟨g, 2, none⟩ v2).setCell ⟨g, 3, none⟩ v3).setCell ⟨g, 4, none⟩ v4).setCell ⟨g, 5, none⟩ v5) g t #[v0, v1, v2, v3, v4, v5, x6, x7, x8] := h4.set_ 5 v5
  have h6 : Blk (((((((W.setCell ⟨g, 0, none⟩ v0).setCell ⟨g, 1, none⟩ v1).setCell ⟨g, 2, none⟩ v2).setCell ⟨g, 3, none⟩ v3).setCell ⟨g, 4, none⟩ v4).setCell ⟨g, 5, none⟩ v5).setCell ⟨g, 6, none⟩ v6) g t #[v0, v1, v2, v3, v4, v5, v6, x7, x8] := h5.set_ 6 v6
  have h7 : Blk ((((((((W.setCell ⟨g, 0, none⟩ v0).setCell ⟨g, 1, none⟩ v1).setCell ⟨g, 2, none⟩ v2).setCell ⟨g, 3, none⟩ v3).setCell ⟨g, 4, none⟩ v4).setCell ⟨g, 5, none⟩ v5).setCell ⟨g, 6, none⟩ v6).setCell ⟨g, 7, none⟩ v7) g t #[v0, v1, v2, v3, v4, v5, v6, v7, x8] := h6.set_ 7 v7
  have h8 : Blk (((((((((W.setCell ⟨g, 0, none⟩ v0).setCell ⟨g, 1, none⟩ v1).setCell ⟨g, 2, none⟩ v2).setCell ⟨g, 3, none⟩ v3).setCell ⟨g, 4, none⟩ v4).setCell ⟨g, 5, none⟩ v5).setCell ⟨g, 6, none⟩ v6).setCell ⟨g, 7, none⟩ v7).setCell ⟨g, 8, none⟩ v8) g t #[v0, v1, v2, v3, v4, v5, v6, v7, v8] := h7.set_ 8 v8
  exact h8
theorem set9_below {w W : World} {B g : Nat} (h : Below B w W) (hg : B ≤ g) (v0 v1 v2 v3 v4 v5 v6 v7 v8 : Value) : Below B w (set9 W g v0 v1 v2 v3 v4 v5 v6 v7 v8) :=
  ((((((((h.setCell (p := ⟨g, 0, none⟩) hg v0).setCell (p := ⟨g, 1, none⟩) hg v1).setCell (p := ⟨g, 2, none⟩) hg v2).setCell (p := ⟨g, 3, none⟩) hg v3).setCell (p := ⟨g, 4, none⟩) hg v4).setCell (p := ⟨g, 5, none⟩) hg v5).setCell (p := ⟨g, 6, none⟩) hg v6).setCell (p := ⟨g, 7, none⟩) hg v7).setCell (p := ⟨g, 8, none⟩) hg v8
theorem set9_far {W : World} {g k : Nat} (hk : k ≠ g) (v0 v1 v2 v3 v4 v5 v6 v7 v8 : Value) : (set9 W g v0 v1 v2 v3 v4 v5 v6 v7 v8).heap[k]? = W.heap[k]? := by
  unfold set9
  iterate 9 rw [Below.heap_setCell _ _ _ _ (by exact hk)]
def av0 : AV := ⟨0, [], ev0, sv0⟩
/-- What activate.file answers. -/
def FilePost (w : World) (name rest : Txt) : Ending → World → Prop := fun e w' => ∃ a : AV, e = .returned (.tuple #[.agg (avArr a), .string ⟨(fileP name rest).2.toArray⟩]) ∧ a.act = (fileP name rest).1 ∧ a.unit = sv0 ∧
  Slc w' w'.heap.size 1 a.file.A a.file.n a.file.c (a.file.data.map bv) ∧ (∀ x, a.file.A = some x → w.heap.size ≤ x.block ∧ x.block < w'.heap.size) ∧ a.name.length ≤ name.length ∧ a.file.path.length ≤ name.length ∧ a.file.n ≤ rest.length ∧ (fileP name rest).2.length ≤ rest.length ∧ Below w.heap.size w w'
theorem file_no1 {name rest : Txt} (h : (splitN 32 name).length ≠ 3) : fileP name rest = (⟨0, [], ent0, srv0⟩, []) := by
  unfold fileP
  split
  · rename_i k p d e
    rw [e] at h
    simp at h
  · rfl
theorem file_no2 {name rest k p d : Txt} (h : splitN 32 name = [k, p, d]) (hd : 4 < d.length ∨ numI d = none) : fileP name rest = (⟨0, [], ent0, srv0⟩, []) := by
  unfold fileP
  rw [h]
  simp only
  have : (if d.length ≤ 4 then numI d else none) = none := by
    split
    · exact hd.resolve_left (by omega)
    · rfl
  rw [this]
theorem file_no3 {name rest k p d : Txt} {n : Nat} (h : splitN 32 name = [k, p, d]) (hd : d.length ≤ 4) (hn : numI d = some n) (hr : rest.length < n) : fileP name rest = (⟨0, [], ent0, srv0⟩, []) := by
  unfold fileP
  rw [h]
  simp only [if_pos hd, hn]
  rw [if_neg (by omega)]
theorem file_yes {name rest k p d : Txt} {n : Nat} (h : splitN 32 name = [k, p, d]) (hd : d.length ≤ 4) (hn : numI d = some n) (hr : n ≤ rest.length) : fileP name rest = (⟨4, p, ⟨p, if k = [108] then 3 else 1, rest.take n⟩, srv0⟩, rest.drop n) := by
  unfold fileP
  rw [h]
  simp only [if_pos hd, hn, if_pos hr]
/-- A failing end. -/
theorem file_fail {w w' : World} {name rest : Txt} {tmps : Array Value} (he : fileP name rest = (⟨0, [], ent0, srv0⟩, [])) (hG : Blk w' w.heap.size 61 (avArr av0)) (hb : Below w.heap.size w w')
    (h4 : tmps.getD 4 undef = .pointer (some ⟨w.heap.size, 0, none⟩)) (h5 : tmps.getD 5 undef = .string ⟨#[]⟩) :
    bodyPost Tryz.prog Tryz.f78 (FilePost w name rest) Exit.ret { tmps := tmps, defers := [] } w' := by
  refine bodyPost_ret (results_aggr2 (t := 4) (u := 5) (g := w.heap.size) rfl h4 Tryz.isAgg61 Tryz.sizeOf61 rfl hG) rfl ⟨av0, ?_, ?_, rfl, slc_none _ _ _, (fun x hx => by cases hx), Nat.zero_le _, Nat.zero_le _, Nat.zero_le _, ?_, hb⟩
  · rw [h5, he]
  · rw [he]; rfl
  · rw [he]; exact Nat.zero_le _
def zAct : Array Value := #[.int .i64 0, .string ⟨#[]⟩, .string ⟨#[]⟩, .int .i64 0, .slice none 0 0, .string ⟨#[]⟩, .string ⟨#[]⟩, .slice none 0 0, .slice none 0 0]
theorem words_le (c : UInt8) : ∀ s : Txt, (splitN c s).length ≤ s.length + 1
  | [] => by simp [splitN]
  | x :: l => by
    have ih := words_le c l
    unfold splitN
    split
    · simp; exact ih
    · split
      · simp
      · rename_i e
        rw [e] at ih
        simp at ih ⊢
        omega
set_option maxRecDepth 100000 in
set_option maxHeartbeats 4000000 in
/-- No step where the line has not three words. -/
theorem file_few {w : World} {name rest : Txt} (hn : name.length ≤ 60000000) (hm : MaxOk w) (h3 : (splitN 32 name).length ≠ 3) : Calls Tryz.prog 78 #[.string ⟨name.toArray⟩, .string ⟨rest.toArray⟩] w (FilePost w name rest) := by
  have hb1 := bel_new w (.cells zAct 61)
  have hS := split32_any (w.alloc (.cells zAct 61)) name (by omega) (hm.below hb1)
  have hq := words_le 32 name
  obtain ⟨L, hL⟩ : ∃ L, L = (splitN 32 name).length := ⟨_, rfl⟩
  rw [← hL] at hS h3 hq
  have hL62 : L ≤ 9223372036854775807 := by omega
  have hne : ((L : Int) == 3) = false := by rw [beq_eq_false_iff_ne]; omega
  have hne2 : ¬ (L : Int) = 3 := by omega
  have HE := Lib.hid (file_no1 (name := name) (rest := rest) (by rw [← hL]; exact h3))
  have hb2 := hb1.alloc hb1.size (.cells (wordsC name) 9)
  have HB2 := Lib.hid hb2
  have hG := (Blk.new w 61 zAct).alloc (.cells (wordsC name) 9)
  have HG := Lib.hid hG
  generalize wordsC name = wc at *
  unfold zAct at hS hG
  simp only [World.size_alloc] at hS
  clear hb1 hb2 hL hm hq hG h3
  go_enter Tryz.func78, Tryz.ntmps78
  go_wp2_with (go_at_call 103; refine hS.mono ?_; clear hS; rintro e w' ⟨rfl, rfl⟩)
  exact file_fail HE.out HG.out HB2.out rfl rfl
theorem words3 {name k p d : Txt} (h : splitN 32 name = [k, p, d]) : wordsC name = #[.string ⟨k.toArray⟩, .string ⟨p.toArray⟩, .string ⟨d.toArray⟩] := by
  unfold wordsC
  rw [h]
  rfl
/-- The two variables at work. -/
structure F2 (w W : World) (k p d : Txt) : Prop where
  out : Blk W w.heap.size 61 (avArr av0)
  wrd : Blk W (w.heap.size + 1) 9 #[.string ⟨k.toArray⟩, .string ⟨p.toArray⟩, .string ⟨d.toArray⟩]
  bel : Below w.heap.size w W
theorem F2.start (w : World) (k p d : Txt) : F2 w ((w.alloc (.cells zAct 61)).alloc (.cells #[.string ⟨k.toArray⟩, .string ⟨p.toArray⟩, .string ⟨d.toArray⟩] 9)) k p d := by
  have h2 := Blk.new (w.alloc (.cells zAct 61)) 9 #[.string ⟨k.toArray⟩, .string ⟨p.toArray⟩, .string ⟨d.toArray⟩]
  rw [World.size_alloc] at h2
  exact ⟨(Blk.new w 61 zAct).alloc _, h2, (bel_new w _).alloc (by simp) _⟩
theorem F2.below {w W W' : World} {k p d : Txt} (h : F2 w W k p d) (hb : Below W.heap.size W W') : F2 w W' k p d := ⟨h.out.below hb h.out.lt, h.wrd.below hb h.wrd.lt, h.bel.trans (hb.mono h.bel.size)⟩
theorem F2.zero {w W : World} {k p d : Txt} (h : F2 w W k p d) : Blk (set9 W w.heap.size (.int .i64 0) (.string ⟨#[]⟩) (.string ⟨#[]⟩) (.int .i64 0) (.slice none 0 0) (.string ⟨#[]⟩) (.string ⟨#[]⟩) (.slice none 0 0) (.slice none 0 0)) w.heap.size 61 (avArr av0) := set9_blk h.out _ _ _ _ _ _ _ _ _
theorem atoi_yes {w : World} {q : Txt} {v : Int} (hq : q.length ≤ 60000000) (hm : AtoiOk w) (hv : Lib.atoiAll q = .ok v) : Calls Tryz.prog 104 #[.string ⟨q.toArray⟩] w fun e w' => e = .returned (.tuple #[.int .i64 v, .nilIface]) ∧ Below w.heap.size w w' := by
  refine (atoi_any w q (by omega) hm).mono ?_
  rintro e w' ⟨hb, u, err, rfl, ⟨rfl, h⟩ | ⟨_, h⟩⟩
  · rw [hv] at h
    injection h with h
    subst h
    exact ⟨rfl, hb⟩
  · exact absurd hv (h v)
theorem atoi_no {w : World} {q : Txt} (hq : q.length ≤ 60000000) (hm : AtoiOk w) (hv : ∀ v, Lib.atoiAll q ≠ .ok v) : Calls Tryz.prog 104 #[.string ⟨q.toArray⟩] w fun e w' => ∃ u N, e = .returned (.tuple #[.int .i64 u, .iface 170 (.pointer (some ⟨N, 0, none⟩))]) ∧ Below w.heap.size w w' := by
  refine (atoi_any w q (by omega) hm).mono ?_
  rintro e w' ⟨hb, u, err, rfl, ⟨rfl, h⟩ | ⟨⟨N, rfl⟩, h⟩⟩
  · exact absurd h (hv u)
  · exact ⟨u, N, rfl, hb⟩
set_option maxRecDepth 100000 in
set_option maxHeartbeats 4000000 in
/-- No step where the third word is long, or no number. -/
theorem file_bad {w : World} {name rest k p d : Txt} (hn : name.length ≤ 60000000) (hm : MaxOk w) (ha : AtoiOk w) (h3 : splitN 32 name = [k, p, d]) (hdl : d.length ≤ 60000000) (hbad : 4 < d.length ∨ (d.length ≤ 4 ∧ ((∀ v, Lib.atoiAll d ≠ .ok v) ∨ ∃ v, Lib.atoiAll d = .ok v ∧ (v < 0 ∨ (rest.length : Int) < v)))) : Calls Tryz.prog 78 #[.string ⟨name.toArray⟩, .string ⟨rest.toArray⟩] w (FilePost w name rest) := by
  have hb1 := bel_new w (.cells zAct 61)
  have hS := split32_any (w.alloc (.cells zAct 61)) name (by omega) (hm.below hb1)
  have HF := Lib.hid (F2.start w k p d)
  rw [h3, words3 h3] at hS
  simp only [List.length_cons, List.length_nil, World.size_alloc] at hS
  have hsz : (ByteArray.mk d.toArray).size = d.length := bsz_mk d
  have H3 := Lib.hid h3
  have HA := Lib.hid ha
  have hf0 := HF.out
  have c2 := hf0.wrd.cell 2
  simp only [List.getElem?_toArray, List.getElem?_cons_zero, List.getElem?_cons_succ] at c2
  clear hb1 hm ha h3 hf0
  rcases hbad with hl | ⟨hl, hbad | ⟨v, hv, hbad⟩⟩
  · have hl4 : (4 : Int) < (d.length : Int) := by omega
    have HE := Lib.hid (file_no2 (rest := rest) H3.out (.inl hl))
    unfold zAct at hS HF
    clear hl
    go_enter Tryz.func78, Tryz.ntmps78
    go_wp2_with (go_at_call 103; refine hS.mono ?_; clear hS; rintro e w' ⟨rfl, rfl⟩)
    exact file_fail HE.out HF.out.out HF.out.bel rfl rfl
  · have hl4 : ¬ (4 : Int) < (d.length : Int) := by omega
    have HE := Lib.hid (file_no2 (rest := rest) H3.out (.inr (numI_bad hbad)))
    have hat := atoi_no hdl (HA.out.below HF.out.bel) hbad
    unfold zAct at hS HF hat
    clear hl hbad
    go_enter Tryz.func78, Tryz.ntmps78
    go_wp2_with (first
      | (go_at_call 103; refine hS.mono ?_; clear hS; rintro e w' ⟨rfl, rfl⟩)
      | (go_at_call 104; refine hat.mono ?_; clear hat; rintro e3 w3 ⟨u3, N3, rfl, hb3⟩; have hf3 := HF.out.below hb3; obtain ⟨x0, x1, x2, x3, x4, x5, x6, x7, x8⟩ := nine_of (show Blk w3 w.heap.size 61 #[.int .i64 0, .string ⟨#[]⟩, .string ⟨#[]⟩, .int .i64 0, .slice none 0 0, .string ⟨#[]⟩, .string ⟨#[]⟩, .slice none 0 0, .slice none 0 0] from hf3.out); have y0 := hf3.out.frozen 0; have y1 := hf3.out.frozen 1; have y2 := hf3.out.frozen 2; have y3 := hf3.out.frozen 3; have y4 := hf3.out.frozen 4; have y5 := hf3.out.frozen 5; have y6 := hf3.out.frozen 6; have y7 := hf3.out.frozen 7; have y8 := hf3.out.frozen 8; have HF3 := Lib.hid hf3; clear hf3 hb3))
    exact file_fail HE.out HF3.out.zero (set9_below HF3.out.bel (Nat.le_refl _) _ _ _ _ _ _ _ _ _) rfl rfl
  · have hl4 : ¬ (4 : Int) < (d.length : Int) := by omega
    have hrl : (ByteArray.mk rest.toArray).size = rest.length := bsz_mk rest
    have HE := Lib.hid (show fileP name rest = (⟨0, [], ent0, srv0⟩, []) from by
      by_cases h0 : v < 0
      · exact file_no2 (rest := rest) H3.out (.inr (by rw [numI_ok hv, if_neg (by omega)]))
      · exact file_no3 (n := v.toNat) H3.out hl (by rw [numI_ok hv, if_pos (by omega)]) (by omega))
    have hat := atoi_yes hdl (HA.out.below HF.out.bel) hv
    unfold zAct at hS HF hat
    clear hl hv
    have hbad2 : v < 0 ∨ (¬ v < 0 ∧ (rest.length : Int) < v) := by omega
    clear hbad
    rcases hbad2 with hv0 | ⟨hv0, hv1⟩
    all_goals
      go_enter Tryz.func78, Tryz.ntmps78
      go_wp2_with (first
        | (go_at_call 103; refine hS.mono ?_; clear hS; rintro e w' ⟨rfl, rfl⟩)
        | (go_at_call 104; refine hat.mono ?_; clear hat; rintro e3 w3 ⟨rfl, hb3⟩; have hf3 := HF.out.below hb3; obtain ⟨x0, x1, x2, x3, x4, x5, x6, x7, x8⟩ := nine_of (show Blk w3 w.heap.size 61 #[.int .i64 0, .string ⟨#[]⟩, .string ⟨#[]⟩, .int .i64 0, .slice none 0 0, .string ⟨#[]⟩, .string ⟨#[]⟩, .slice none 0 0, .slice none 0 0] from hf3.out); have y0 := hf3.out.frozen 0; have y1 := hf3.out.frozen 1; have y2 := hf3.out.frozen 2; have y3 := hf3.out.frozen 3; have y4 := hf3.out.frozen 4; have y5 := hf3.out.frozen 5; have y6 := hf3.out.frozen 6; have y7 := hf3.out.frozen 7; have y8 := hf3.out.frozen 8; have HF3 := Lib.hid hf3; clear hf3 hb3))
      exact file_fail HE.out HF3.out.zero (set9_below HF3.out.bel (Nat.le_refl _) _ _ _ _ _ _ _ _ _) rfl rfl
end Go.Proofs.YtibndaianhlcaaaGreatDoor
namespace Go.Proofs.YtibndaianhlcaaaGreatDoor
open Go.RowKit Go.Sort Go.Shelf
set_option linter.unusedVariables false
set_option linter.unusedSimpArgs false

theorem conv22 (W : World) (rest : Txt) (j : Nat) (hj : j ≤ rest.length) (hr : rest.length ≤ 60000000) : ∃ cap w', (convert 9 33 (.string ⟨(rest.take j).toArray⟩)).run Tryz.prog W = .ok (.slice (some ⟨W.heap.size, 0, none⟩) j cap) w' ∧ Below W.heap.size W w' ∧ w'.heap.size = W.heap.size + 1 ∧ Slc w' (W.heap.size + 1) 1 (some ⟨W.heap.size, 0, none⟩) j cap ((rest.take j).map bv) := by
  have hz : (ByteArray.mk (rest.take j).toArray).size = j := by rw [bsz_mk, List.length_take]; omega
  obtain ⟨cap, w', h1, h2, h3, h4⟩ := convert_string (P := Tryz.prog) (src := 9) (dst := 33) Tryz.underlying9 Tryz.underlying33 Tryz.underlying5 W ⟨(rest.take j).toArray⟩ (by rw [hz]; unfold maxLen; omega)
  rw [hz] at h1 h4
  exact ⟨cap, w', h1, h2, h3, h4⟩
/-- The entry's variable at s, its bytes at g. -/
structure M22 (w W : World) (k p d dat : Txt) (κ : Int) (s g j cap : Nat) : Prop where
  f2 : F2 w W k p d
  var : Blk W s 35 #[.string ⟨p.toArray⟩, .int .i64 κ, .slice (some ⟨g, 0, none⟩) j cap]
  slc : Slc W W.heap.size 1 (some ⟨g, 0, none⟩) j cap (dat.map bv)
  slo : w.heap.size + 1 < s
  glo : w.heap.size + 1 < g
  ghi : g < W.heap.size
  ne : g ≠ s
theorem m22_new {w w3 wA : World} {k p d dat : Txt} {j cap : Nat} (h : F2 w w3 k p d) (hb : Below w3.drew.heap.size w3.drew wA) (hz : wA.heap.size = w3.drew.heap.size + 1) (hs : Slc wA (w3.drew.heap.size + 1) 1 (some ⟨w3.drew.heap.size, 0, none⟩) j cap (dat.map bv)) :
    M22 w (wA.alloc (.cells #[.string ⟨p.toArray⟩, .int .i64 1, .slice (some ⟨w3.heap.size, 0, none⟩) j cap] 35)) k p d dat 1 wA.heap.size w3.heap.size j cap := by
  have hl := h.wrd.lt
  have e : w3.drew.heap.size = w3.heap.size := rfl
  rw [e] at hz hs
  have hb2 := (Below.refl _ w3).drew.trans hb
  refine ⟨h.below (hb2.alloc hb2.size _), Blk.new _ _ _, ((hs.below (B := w3.heap.size + 1) (by rw [← hz]; exact bel_new wA _)).more (by simp; omega)), by omega, hl, by simp; omega, by omega⟩
theorem m22_put {w w3 wB : World} {k p d dat : Txt} {j cap : Nat} (h : F2 w w3 k p d) (hb : Below (w3.alloc (.cells #[.string ⟨#[]⟩, .int .i64 0, .slice none 0 0] 35)).drew.heap.size (w3.alloc (.cells #[.string ⟨#[]⟩, .int .i64 0, .slice none 0 0] 35)).drew wB) (hz : wB.heap.size = (w3.alloc (.cells #[.string ⟨#[]⟩, .int .i64 0, .slice none 0 0] 35)).drew.heap.size + 1)
    (hs : Slc wB ((w3.alloc (.cells #[.string ⟨#[]⟩, .int .i64 0, .slice none 0 0] 35)).drew.heap.size + 1) 1 (some ⟨(w3.alloc (.cells #[.string ⟨#[]⟩, .int .i64 0, .slice none 0 0] 35)).drew.heap.size, 0, none⟩) j cap (dat.map bv)) :
    M22 w (((wB.setCell ⟨w3.heap.size, 0, none⟩ (.string ⟨p.toArray⟩)).setCell ⟨w3.heap.size, 1, none⟩ (.int .i64 1)).setCell ⟨w3.heap.size, 2, none⟩ (.slice (some ⟨w3.heap.size + 1, 0, none⟩) j cap)) k p d dat 1 w3.heap.size (w3.heap.size + 1) j cap := by
  have hl := h.wrd.lt
  have e : (w3.alloc (.cells #[.string ⟨#[]⟩, .int .i64 0, .slice none 0 0] 35)).drew.heap.size = w3.heap.size + 1 := by simp
  have hg := (Blk.new w3 35 #[.string ⟨#[]⟩, .int .i64 0, .slice none 0 0]).drew.below hb (by simp)
  have hb2 : Below w3.heap.size w3 wB := (bel_new w3 _).drew.trans (hb.mono (by simp))
  rw [e] at hz hs
  have hb3 : Below w3.heap.size w3 (((wB.setCell ⟨w3.heap.size, 0, none⟩ (.string ⟨p.toArray⟩)).setCell ⟨w3.heap.size, 1, none⟩ (.int .i64 1)).setCell ⟨w3.heap.size, 2, none⟩ (.slice (some ⟨w3.heap.size + 1, 0, none⟩) j cap)) := ((hb2.setCell (p := ⟨w3.heap.size, 0, none⟩) (Nat.le_refl _) _).setCell (p := ⟨w3.heap.size, 1, none⟩) (Nat.le_refl _) _).setCell (p := ⟨w3.heap.size, 2, none⟩) (Nat.le_refl _) _
  refine ⟨h.below hb3, ((hg.set_ 0 _).set_ 1 _).set_ 2 _, ?_, hl, by omega, by simp; omega, by omega⟩
  have h9 := ((hs.apartB (w' := wB.setCell ⟨w3.heap.size, 0, none⟩ (.string ⟨p.toArray⟩)) (fun x hx => Below.heap_setCell _ _ _ _ (by injection hx with hx; rw [← hx]; simp))).apartB (w' := (wB.setCell ⟨w3.heap.size, 0, none⟩ (.string ⟨p.toArray⟩)).setCell ⟨w3.heap.size, 1, none⟩ (.int .i64 1)) (fun x hx => Below.heap_setCell _ _ _ _ (by injection hx with hx; rw [← hx]; simp))).apartB (w' := ((wB.setCell ⟨w3.heap.size, 0, none⟩ (.string ⟨p.toArray⟩)).setCell ⟨w3.heap.size, 1, none⟩ (.int .i64 1)).setCell ⟨w3.heap.size, 2, none⟩ (.slice (some ⟨w3.heap.size + 1, 0, none⟩) j cap)) (fun x hx => Below.heap_setCell _ _ _ _ (by injection hx with hx; rw [← hx]; simp))
  exact h9.more (by simp; omega)
theorem M22.link {w W : World} {k p d dat : Txt} {s g j cap : Nat} (h : M22 w W k p d dat 1 s g j cap) : M22 w (W.setCell ⟨s, 1, none⟩ (.int .i64 3)) k p d dat 3 s g j cap := by
  have hsl := h.slo
  have hb : Below (w.heap.size + 2) W (W.setCell ⟨s, 1, none⟩ (.int .i64 3)) := (Below.refl _ W).setCell (p := ⟨s, 1, none⟩) (by show w.heap.size + 2 ≤ s; omega) _
  refine ⟨⟨h.f2.out.far (by show w.heap.size ≠ s; omega) _, h.f2.wrd.far (by show w.heap.size + 1 ≠ s; omega) _, h.f2.bel.trans (hb.mono (by omega))⟩, h.var.set_ 1 _, ?_, h.slo, h.glo, by simpa using h.ghi, h.ne⟩
  exact (h.slc.apartB (fun x hx => Below.heap_setCell _ _ _ _ (by injection hx with hx; rw [← hx]; exact h.ne))).more (by simp)
/-- The good end. -/
theorem file_end {w W : World} {name rest k p d : Txt} {κ : Int} {s g j cap : Nat} {tmps : Array Value} (hE : fileP name rest = (⟨4, p, ⟨p, κ, rest.take j⟩, srv0⟩, rest.drop j)) (hpl : p.length ≤ name.length) (hj : j ≤ rest.length) (M : M22 w W k p d (rest.take j) κ s g j cap)
    (h4 : tmps.getD 4 undef = .pointer (some ⟨w.heap.size, 0, none⟩)) (h5 : tmps.getD 5 undef = .string ⟨(rest.drop j).toArray⟩) {W9 : World} (h9 : W9 = (set9 W w.heap.size (.int .i64 4) (.string ⟨p.toArray⟩) (.string ⟨p.toArray⟩) (.int .i64 κ) (.slice (some ⟨g, 0, none⟩) j cap) (.string ⟨#[]⟩) (.string ⟨#[]⟩) (.slice none 0 0) (.slice none 0 0)).drew) :
    bodyPost Tryz.prog Tryz.f78 (FilePost w name rest) Exit.ret { tmps := tmps, defers := [] } W9 := by
  have hg := M.glo
  have hz : (set9 W w.heap.size (.int .i64 4) (.string ⟨p.toArray⟩) (.string ⟨p.toArray⟩) (.int .i64 κ) (.slice (some ⟨g, 0, none⟩) j cap) (.string ⟨#[]⟩) (.string ⟨#[]⟩) (.slice none 0 0) (.slice none 0 0)).heap.size = W.heap.size := by unfold set9; simp only [World.size_setCell]
  have hB : Blk (set9 W w.heap.size (.int .i64 4) (.string ⟨p.toArray⟩) (.string ⟨p.toArray⟩) (.int .i64 κ) (.slice (some ⟨g, 0, none⟩) j cap) (.string ⟨#[]⟩) (.string ⟨#[]⟩) (.slice none 0 0) (.slice none 0 0)) w.heap.size 61 (avArr ⟨4, p, ⟨p, κ, rest.take j, some ⟨g, 0, none⟩, j, cap⟩, sv0⟩) := set9_blk M.f2.out _ _ _ _ _ _ _ _ _
  have hbl := set9_below M.f2.bel (Nat.le_refl _) (.int .i64 4) (.string ⟨p.toArray⟩) (.string ⟨p.toArray⟩) (.int .i64 κ) (.slice (some ⟨g, 0, none⟩) j cap) (.string ⟨#[]⟩) (.string ⟨#[]⟩) (.slice none 0 0) (.slice none 0 0)
  have hfar := set9_far (W := W) (show g ≠ w.heap.size by omega) (.int .i64 4) (.string ⟨p.toArray⟩) (.string ⟨p.toArray⟩) (.int .i64 κ) (.slice (some ⟨g, 0, none⟩) j cap) (.string ⟨#[]⟩) (.string ⟨#[]⟩) (.slice none 0 0) (.slice none 0 0)
  generalize set9 W w.heap.size (.int .i64 4) (.string ⟨p.toArray⟩) (.string ⟨p.toArray⟩) (.int .i64 κ) (.slice (some ⟨g, 0, none⟩) j cap) (.string ⟨#[]⟩) (.string ⟨#[]⟩) (.slice none 0 0) (.slice none 0 0) = W5 at *
  subst h9
  have hs5 : Slc W5 W5.heap.size 1 (some ⟨g, 0, none⟩) j cap ((rest.take j).map bv) := by
    rw [hz]
    exact M.slc.apartB fun x hx => by injection hx with hx; rw [← hx]; exact hfar
  have hg5 : g < W5.heap.size := by rw [hz]; exact M.ghi
  refine bodyPost_ret (results_aggr2 (t := 4) (u := 5) (g := w.heap.size) rfl h4 Tryz.isAgg61 Tryz.sizeOf61 rfl hB.drew) rfl ⟨⟨4, p, ⟨p, κ, rest.take j, some ⟨g, 0, none⟩, j, cap⟩, sv0⟩, ?_, ?_, rfl, hs5.below (Below.refl _ _).drew, ?_, hpl, hpl, hj, ?_, hbl.drew⟩
  · rw [h5, hE]
  · rw [hE]; rfl
  · intro x hx
    injection hx with hx
    rw [← hx]
    exact ⟨by show w.heap.size ≤ g; omega, hg5⟩
  · rw [hE]; simp
set_option maxRecDepth 100000 in
set_option maxHeartbeats 4000000 in
theorem file_good {w : World} {name rest k p d : Txt} (hn : name.length ≤ 60000000) (hr : rest.length ≤ 60000000) (hm : MaxOk w) (ha : AtoiOk w) (h3 : splitN 32 name = [k, p, d]) (hdl : d.length ≤ 4) (hpl : p.length ≤ name.length) {j : Nat} (hv : Lib.atoiAll d = .ok (j : Int)) (hj : j ≤ rest.length) : Calls Tryz.prog 78 #[.string ⟨name.toArray⟩, .string ⟨rest.toArray⟩] w (FilePost w name rest) := by
  have hb1 := bel_new w (.cells zAct 61)
  have hS := split32_any (w.alloc (.cells zAct 61)) name (by omega) (hm.below hb1)
  have HF := Lib.hid (F2.start w k p d)
  rw [h3, words3 h3] at hS
  simp only [List.length_cons, List.length_nil, World.size_alloc] at hS
  have hsz : (ByteArray.mk d.toArray).size = d.length := bsz_mk d
  have hrz : (ByteArray.mk rest.toArray).size = rest.length := bsz_mk rest
  have tk : (ByteArray.mk k.toArray).toList = k := Go.ByteArray.toList_eq _
  have HE := Lib.hid (file_yes (rest := rest) (n := j) h3 hdl (by rw [numI_ok hv, if_pos (by omega), Int.toNat_natCast]) hj)
  have hat := atoi_yes (by omega) (ha.below HF.out.bel) hv
  have hf0 := HF.out
  have c2 := hf0.wrd.cell 2
  simp only [List.getElem?_toArray, List.getElem?_cons_zero, List.getElem?_cons_succ] at c2
  have hl4 : ¬ (4 : Int) < (d.length : Int) := by omega
  have hj0 : ¬ (j : Int) < 0 := by omega
  have hj1 : ¬ (rest.length : Int) < (j : Int) := by omega
  have hj2 : (j : Int) ≤ (rest.length : Int) := by omega
  have hj3 : 0 ≤ (j : Int) := by omega
  have HPL := Lib.hid hpl
  clear hb1 hm ha h3 hf0 hv hpl
  unfold zAct at hS HF hat
  go_enter Tryz.func78, Tryz.ntmps78
  go_upto_region 7 with (first
    | (go_at_call 103; refine hS.mono ?_; clear hS; rintro e w' ⟨rfl, rfl⟩)
    | (go_at_call 104; refine hat.mono ?_; clear hat; rintro e3 w3 ⟨rfl, hb3⟩; have hf3 := HF.out.below hb3; have HF3 := Lib.hid hf3; have wk0 := hf3.wrd.cell 0; have wk1 := hf3.wrd.cell 1; simp only [List.getElem?_toArray, List.getElem?_cons_zero, List.getElem?_cons_succ] at wk0 wk1; clear hf3 hb3 c2))
  have hxe : (ByteArray.mk rest.toArray).extract 0 j = ⟨(rest.take j).toArray⟩ := ext0 rest j
  have hxd : (ByteArray.mk rest.toArray).extract j rest.length = ⟨(rest.drop j).toArray⟩ := extN rest j
  obtain ⟨capA, wA, hrA, hbA, hzA, hsA⟩ := conv22 w3.drew rest j hj hr
  obtain ⟨capB, wB, hrB, hbB, hzB, hsB⟩ := conv22 (w3.alloc (.cells #[.string ⟨#[]⟩, .int .i64 0, .slice none 0 0] 35)).drew rest j hj hr
  have HMA := Lib.hid (m22_new HF3.out hbA hzA hsA)
  have HMB := Lib.hid (m22_put HF3.out hbB hzB hsB)
  have hwl := HF3.out.wrd.lt
  have ka : wA.cell? ⟨w.heap.size + 1, 1, none⟩ = some (.string ⟨p.toArray⟩) := (((Below.refl _ w3).drew.trans hbA).cell (p := ⟨w.heap.size + 1, 1, none⟩) hwl).trans wk1
  have kb : wB.cell? ⟨w.heap.size + 1, 1, none⟩ = some (.string ⟨p.toArray⟩) := (((bel_new w3 _).drew.trans (hbB.mono (by simp))).cell (p := ⟨w.heap.size + 1, 1, none⟩) hwl).trans wk1
  have hgB := (Blk.new w3 35 #[.string ⟨#[]⟩, .int .i64 0, .slice none 0 0]).drew.below hbB (by simp)
  have b0 := hgB.cell 0
  have b1 := hgB.cell 1
  have b2 := hgB.cell 2
  have bf0 := hgB.frozen 0
  have bf1 := hgB.frozen 1
  have bf2 := hgB.frozen 2
  simp only [List.getElem?_toArray, List.getElem?_cons_zero, List.getElem?_cons_succ] at b0 b1 b2
  have kw : (w3.alloc (.cells #[.string ⟨#[]⟩, .int .i64 0, .slice none 0 0] 35)).cell? ⟨w.heap.size + 1, 1, none⟩ = some (.string ⟨p.toArray⟩) := ((bel_new w3 _).cell (p := ⟨w.heap.size + 1, 1, none⟩) hwl).trans wk1
  have kaw : (wA.alloc (.cells #[.string ⟨#[]⟩, .int .i64 0, .slice none 0 0] 35)).cell? ⟨w.heap.size + 1, 1, none⟩ = some (.string ⟨p.toArray⟩) := ((bel_new wA _).cell (p := ⟨w.heap.size + 1, 1, none⟩) (Nat.lt_of_lt_of_le hwl ((Below.refl _ w3).drew.trans hbA).size)).trans ka
  clear hbA hzA hsA hbB hzB hsB hwl hgB
  go_region
  focus
    have M := HMA.out
    revert M
    generalize wA.alloc (.cells #[.string ⟨p.toArray⟩, .int .i64 1, .slice (some ⟨w3.heap.size, 0, none⟩) j capA] 35) = W7
    generalize wA.heap.size = s
    generalize w3.heap.size = g
    generalize capA = cap
    intro M
    clear HMA HMB b0 b1 b2 bf0 bf1 bf2 hrA hrB
    clear ka kb kw kaw wk0 wk1 HF3
  rotate_left
  focus
    have M := HMB.out
    revert M
    generalize ((wB.setCell ⟨w3.heap.size, 0, none⟩ (.string ⟨p.toArray⟩)).setCell ⟨w3.heap.size, 1, none⟩ (.int .i64 1)).setCell ⟨w3.heap.size, 2, none⟩ (.slice (some ⟨w3.heap.size + 1, 0, none⟩) j capB) = W7
    generalize w3.heap.size + 1 = g
    generalize w3.heap.size = s
    generalize capB = cap
    intro M
    clear HMA HMB b0 b1 b2 bf0 bf1 bf2 hrA hrB
    clear ka kb kw kaw wk0 wk1 HF3
  all_goals
    have wk0 := M.f2.wrd.cell 0
    have z1 := M.var.cell 1
    have zf1 := M.var.frozen 1
    simp only [List.getElem?_toArray, List.getElem?_cons_zero, List.getElem?_cons_succ] at wk0 z1
    have HM := Lib.hid M
    clear M
    by_cases hk : k = [108]
  all_goals first
    | (have hkt : (k == [108]) = true := (by rw [beq_iff_eq]; exact hk)
       have HE2 := Lib.hid (HE.out.trans (show _ = ((⟨4, p, ⟨p, 3, rest.take j⟩, srv0⟩ : ActP), rest.drop j) by rw [if_pos hk]))
       clear hk HE
       go_upto_region 10 with (fail)
       replace HM := Lib.hid (HM.out.link)
       generalize W7.setCell ⟨s, 1, none⟩ (.int .i64 3) = W8 at *
       generalize hκ : (3 : Int) = κ at HM HE2)
    | (have hkt : (k == [108]) = false := (by rw [beq_eq_false_iff_ne]; exact hk)
       have HE2 := Lib.hid (HE.out.trans (show _ = ((⟨4, p, ⟨p, 1, rest.take j⟩, srv0⟩ : ActP), rest.drop j) by rw [if_neg hk]))
       clear hk HE
       go_upto_region 10 with (fail)
       generalize W7 = W8 at *
       generalize hκ : (1 : Int) = κ at HM HE2)
  all_goals
    clear hκ wk0 z1 zf1
    have M := HM.out
    have hs1 : ¬ s = w.heap.size := by have := M.slo; omega
    have hs2 : ¬ w.heap.size = s := by have := M.slo; omega
    have z0 := M.var.cell 0
    have z1 := M.var.cell 1
    have z2 := M.var.cell 2
    obtain ⟨x0, x1, x2, x3, x4, x5, x6, x7, x8⟩ := nine_of (show Blk W8 w.heap.size 61 #[.int .i64 0, .string ⟨#[]⟩, .string ⟨#[]⟩, .int .i64 0, .slice none 0 0, .string ⟨#[]⟩, .string ⟨#[]⟩, .slice none 0 0, .slice none 0 0] from M.f2.out)
    have y0 := M.f2.out.frozen 0
    have y1 := M.f2.out.frozen 1
    have y2 := M.f2.out.frozen 2
    have y3 := M.f2.out.frozen 3
    have y4 := M.f2.out.frozen 4
    have y5 := M.f2.out.frozen 5
    have y6 := M.f2.out.frozen 6
    have y7 := M.f2.out.frozen 7
    have y8 := M.f2.out.frozen 8
    simp only [List.getElem?_toArray, List.getElem?_cons_zero, List.getElem?_cons_succ] at z0 z1 z2
    clear M
    go_region
  all_goals go_wp2_with (fail)
  all_goals
    refine file_end HE2.out HPL.out hj HM.out ?_ ?_ ?_
    · rfl
    · rfl
    · unfold set9; with_reducible rfl
theorem splitN_mem {c : UInt8} {t a : Txt} (h : a ∈ splitN c t) : a.length ≤ t.length := split_mem h
theorem file21_any {w : World} {name rest : Txt} (hn : name.length ≤ 60000000) (hr : rest.length ≤ 60000000) (hm : MaxOk w) (ha : AtoiOk w) : Calls Tryz.prog 78 #[.string ⟨name.toArray⟩, .string ⟨rest.toArray⟩] w (FilePost w name rest) := by
  by_cases h3 : ∃ k p d, splitN 32 name = [k, p, d]
  · obtain ⟨k, p, d, h3⟩ := h3
    have hdl : d.length ≤ name.length := split_mem (c := 32) (by rw [h3]; simp)
    have hpl : p.length ≤ name.length := split_mem (c := 32) (by rw [h3]; simp)
    by_cases h4 : 4 < d.length
    · exact file_bad hn hm ha h3 (by omega) (.inl h4)
    by_cases hv : ∃ v, Lib.atoiAll d = .ok v
    · obtain ⟨v, hv⟩ := hv
      by_cases hb : v < 0 ∨ (rest.length : Int) < v
      · exact file_bad hn hm ha h3 (by omega) (.inr ⟨by omega, .inr ⟨v, hv, hb⟩⟩)
      · obtain ⟨j, rfl⟩ : ∃ j : Nat, v = (j : Int) := ⟨v.toNat, by omega⟩
        exact file_good hn hr hm ha h3 (by omega) hpl hv (by omega)
    · exact file_bad hn hm ha h3 (by omega) (.inr ⟨by omega, .inl fun v h9 => hv ⟨v, h9⟩⟩)
  · refine file_few hn hm fun hl => h3 ?_
    match hs : splitN 32 name, hl with
    | [k, p, d], _ => exact ⟨k, p, d, rfl⟩
end Go.Proofs.YtibndaianhlcaaaGreatDoor
