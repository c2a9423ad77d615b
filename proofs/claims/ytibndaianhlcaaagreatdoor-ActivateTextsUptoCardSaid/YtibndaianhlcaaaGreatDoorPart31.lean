/- A script while it is read: what lies in memory. activate.Parse walked: the steps of a script, or none. -/
import Derived.Test.YtibndaianhlcaaaGreatDoorPart30
import Derived.Test.YtibndaianhlcaaaGreatDoorPart29
namespace Go.Proofs.YtibndaianhlcaaaGreatDoor
open Go.RowKit Go.Sort Go.Shelf
set_option linter.unusedVariables false
set_option linter.unusedSimpArgs false

/-- A step that was read out of a text of T bytes, k of them still ahead. -/
structure SmallT (T k : Nat) (a : ActP) : Prop where
  name : a.name.length ≤ T
  path : a.file.path.length ≤ T
  data : a.file.data.length ≤ T
  un : a.unit.name.length ≤ T
  us : a.unit.start.length ≤ T
  texts : ∀ t ∈ a.unit.req ++ a.unit.aft, t.length ≤ T
  req : a.unit.req.length + k ≤ T
  aft : a.unit.aft.length + k ≤ T
theorem SmallT.less {T k k' : Nat} {a : ActP} (h : SmallT T k a) (hk : k' ≤ k) : SmallT T k' a := ⟨h.name, h.path, h.data, h.un, h.us, h.texts, by have := h.req; omega, by have := h.aft; omega⟩
theorem SmallT.more {T k : Nat} {a : ActP} (h : SmallT T (k + 1) a) (w r : Txt) (hr : r.length ≤ T) : SmallT T k ⟨a.kind, a.name, a.file, (moreU a.unit w r).1⟩ := by
  obtain ⟨h1, h2, h3, h4, h5, h6, h7, h8⟩ := h
  unfold moreU
  by_cases e1 : w = wRun
  · rw [if_pos e1]
    exact ⟨h1, h2, h3, h4, hr, h6, by simp only; omega, by simp only; omega⟩
  rw [if_neg e1]
  by_cases e2 : w = wReq
  · rw [if_pos e2]
    refine ⟨h1, h2, h3, h4, h5, fun t ht => ?_, by simp only [List.length_append, List.length_cons, List.length_nil]; omega, by simp only; omega⟩
    simp only [List.mem_append, List.mem_singleton] at ht
    rcases ht with (ht | ht) | ht
    · exact h6 t (List.mem_append.2 (.inl ht))
    · rw [ht]; exact hr
    · exact h6 t (List.mem_append.2 (.inr ht))
  rw [if_neg e2]
  by_cases e3 : w = wAft
  · rw [if_pos e3]
    refine ⟨h1, h2, h3, h4, h5, fun t ht => ?_, by simp only; omega, by simp only [List.length_append, List.length_cons, List.length_nil]; omega⟩
    simp only [List.mem_append, List.mem_singleton] at ht
    rcases ht with ht | ht | ht
    · exact h6 t (List.mem_append.2 (.inl ht))
    · exact h6 t (List.mem_append.2 (.inr ht))
    · rw [ht]; exact hr
  rw [if_neg e3]
  exact ⟨h1, h2, h3, h4, h5, h6, by simp only; omega, by simp only; omega⟩
theorem SmallT.q {T k : Nat} {w : World} {B : Nat} {a : AV} (h : SmallT T k a.act) (ha : ActAt w B a) (hT : T ≤ 60000000) : SmallQ a := by
  have h1 : a.file.data.length = a.file.n := by have := ha.data.len; simpa using this
  have h2 : a.unit.req.length = a.unit.n := by have := ha.req.len; simpa using this
  have h3 : a.unit.aft.length = a.unit.n2 := by have := ha.aft.len; simpa using this
  have g3 : a.file.data.length ≤ T := h.data
  have g7 : a.unit.req.length + k ≤ T := h.req
  have g8 : a.unit.aft.length + k ≤ T := h.aft
  refine ⟨Nat.le_trans h.name hT, Nat.le_trans h.path hT, by omega, ⟨Nat.le_trans h.un hT, Nat.le_trans h.us hT, fun t ht => Nat.le_trans (h.texts t ht) hT, by omega, by omega⟩⟩
/-- What stands at the test of the loop. -/
structure PA (w wr : World) (text : Txt) (A : Option Addr) (n c : Nat) (l : List AV) (rest : Txt) : Prop where
  bld : ∃ F, BldA wr F A n c l ∧ ∀ k, F k → w.heap.size ≤ k
  bel : Below w.heap.size w wr
  small : ∀ a ∈ l, SmallT text.length rest.length a.act
  few : n + rest.length ≤ text.length
  read : ∃ f, rest.length < f ∧ readL numI (text.length + 1) [] text = readL numI f (l.map AV.act) rest
theorem PA.start (w : World) (text : Txt) : PA w w text none 0 0 [] text :=
  ⟨⟨fun _ => False, BldA.nil _ _, fun k hk => hk.elim⟩, Below.refl _ _, (fun a ha => by cases ha), by omega, ⟨text.length + 1, Nat.lt_succ_self _, rfl⟩⟩
theorem PA.len {w wr : World} {text : Txt} {A : Option Addr} {n c : Nat} {l : List AV} {rest : Txt} (h : PA w wr text A n c l rest) : l.length = n := by
  obtain ⟨F, hb, _⟩ := h.bld
  exact hb.own.len
theorem PA.below {w wr w2 : World} {text : Txt} {A : Option Addr} {n c : Nat} {l : List AV} {rest : Txt} (h : PA w wr text A n c l rest) (hb : Below wr.heap.size wr w2) : PA w w2 text A n c l rest := by
  obtain ⟨F, h1, h2⟩ := h.bld
  exact ⟨⟨F, h1.below hb, h2⟩, h.bel.trans (hb.mono h.bel.size), h.small, h.few, h.read⟩
theorem PA.acts {w wr : World} {text : Txt} {A : Option Addr} {n c : Nat} {l : List AV} {rest : Txt} (h : PA w wr text A n c l rest) : ActsAt wr wr.heap.size A n c l := by
  obtain ⟨F, h1, h2⟩ := h.bld
  exact h1.own.acts
theorem PA.q {w wr : World} {text : Txt} {A : Option Addr} {n c : Nat} {l : List AV} {rest : Txt} (h : PA w wr text A n c l rest) (hT : text.length ≤ 60000000) : ∀ a ∈ l, SmallQ a := fun a ha => (h.small a ha).q (h.acts.acts a ha) hT
theorem read_on {text rest r : Txt} {out o : List ActP} (h : ∃ f, rest.length < f ∧ readL numI (text.length + 1) [] text = readL numI f out rest) (hne : ¬ (rest = wEnd ∨ rest = [])) (hr : readA numI out rest = some (o, r)) (hl : r.length < rest.length) :
    ∃ f, r.length < f ∧ readL numI (text.length + 1) [] text = readL numI f o r := by
  obtain ⟨f, h1, h2⟩ := h
  obtain ⟨g, rfl⟩ : ∃ g, f = g + 1 := ⟨f - 1, by omega⟩
  exact ⟨g, by omega, by rw [h2, readL_step hr hne]⟩
theorem read_not {text rest : Txt} {out : List ActP} (h : ∃ f, rest.length < f ∧ readL numI (text.length + 1) [] text = readL numI f out rest) (hne : ¬ (rest = wEnd ∨ rest = [])) (hr : readA numI out rest = none) : parseP numI decI text = none := by
  obtain ⟨f, h1, h2⟩ := h
  obtain ⟨g, rfl⟩ : ∃ g, f = g + 1 := ⟨f - 1, by omega⟩
  unfold parseP
  rw [h2, readL, if_neg hne, hr]
theorem read_end {text rest : Txt} {out : List ActP} (h : ∃ f, rest.length < f ∧ readL numI (text.length + 1) [] text = readL numI f out rest) (he : rest = wEnd ∨ rest = []) : parseP numI decI text = if textA decI out = some text then some out else none := by
  obtain ⟨f, h1, h2⟩ := h
  obtain ⟨g, rfl⟩ : ∃ g, f = g + 1 := ⟨f - 1, by omega⟩
  unfold parseP
  rw [h2, readL, if_pos he]
theorem text_same {text : Txt} {out : List ActP} (hne : out = [] ∨ text ≠ []) : textA decI out = some text ↔ (textA decI out).getD [] = text := by
  cases h : textA decI out with
  | none =>
    simp only [Option.getD_none]
    refine ⟨fun h9 => (by cases h9), fun h9 => ?_⟩
    rcases hne with rfl | hne
    · unfold textA at h
      rw [if_pos ⟨by decide, rfl⟩] at h
      cases h
    · exact absurd h9.symm hne
  | some t => simp
/-- A step more. -/
theorem PA.add {w wr w2 : World} {text : Txt} {A : Option Addr} {n c : Nat} {l : List AV} {rest r : Txt} (h : PA w wr text A n c l rest) (hne : ¬ (rest = wEnd ∨ rest = [])) (hT : text.length ≤ 60000000) (hb : Below wr.heap.size wr w2) (a : AV)
    (hr : readA numI (l.map AV.act) rest = some (l.map AV.act ++ [a.act], r)) (hl : r.length < rest.length) (hs : SmallT text.length r.length a.act)
    (hd : Slc w2 w2.heap.size 1 a.file.A a.file.n a.file.c (a.file.data.map bv)) (ho : ∀ x, a.file.A = some x → wr.heap.size ≤ x.block ∧ x.block < w2.heap.size)
    (h1 : a.unit.A = none ∧ a.unit.n = 0 ∧ a.unit.c = 0 ∧ a.unit.req = []) (h2 : a.unit.A2 = none ∧ a.unit.n2 = 0 ∧ a.unit.c2 = 0 ∧ a.unit.aft = []) :
    ∃ A' c' w', (Builtin.append_ #[40, 40] 40 #[.slice A n c, .slice (some ⟨w2.heap.size, 0, none⟩) 1 1]).run Tryz.prog (w2.alloc (.cells (avArr a) 61)) = .ok (.slice A' (n + 1) c') w' ∧ PA w w' text A' (n + 1) c' (l ++ [a]) r := by
  obtain ⟨F, g1, g2⟩ := h.bld
  have hF : ∀ k, F k → k < wr.heap.size ∨ wr.heap.size ≤ k := fun k _ => Nat.lt_or_ge _ _
  obtain ⟨F', hF'⟩ : ∃ F' : Nat → Prop, F' = fun k => F k ∧ k < wr.heap.size := ⟨_, rfl⟩
  have g3 : BldA wr F' A n c l := by
    refine ⟨⟨⟨g1.own.row.own, fun k hk => by rw [hF']; exact ⟨g1.own.row.foot k hk, g1.own.row.lt k hk⟩⟩, fun u hu => ⟨(g1.own.data u hu).data, fun x hx => ⟨fun h9 => by rw [hF'] at h9; exact ((g1.own.data u hu).out x hx).1 h9.1, ((g1.own.data u hu).out x hx).2⟩⟩, fun u hu => ⟨(g1.own.req u hu).own, fun k hk => by rw [hF']; exact ⟨(g1.own.req u hu).foot k hk, (g1.own.req u hu).lt k hk⟩⟩, fun u hu => ⟨(g1.own.aft u hu).own, fun k hk => by rw [hF']; exact ⟨(g1.own.aft u hu).foot k hk, (g1.own.aft u hu).lt k hk⟩⟩⟩, g1.sep⟩
  have hda : DatA w2 F' a := ⟨hd, fun x hx => ⟨fun h9 => by rw [hF'] at h9; have := (ho x hx).1; omega, (ho x hx).2⟩⟩
  have hn : n ≤ 1000000000 := by have := h.few; omega
  obtain ⟨A', c', w', r1, r2, r3⟩ := (g3.below hb).begin a hda h1 h2 hn
  have hb0 := h.bel.trans (hb.mono h.bel.size)
  refine ⟨A', c', w', r1, ⟨⟨_, r2, fun k hk => ?_⟩, hb0.trans (r3.below hb0.size (fun k hk => ?_)), fun x hx => ?_, by have := h.few; omega, ?_⟩⟩
  · rcases hk with hk | hk
    · rw [hF'] at hk; exact g2 k hk.1
    · have := hb0.size; omega
  · rw [hF'] at hk; exact g2 k hk.1
  · rcases List.mem_append.1 hx with hx | hx
    · exact (h.small x hx).less (by omega)
    · rw [List.mem_singleton.1 hx]; exact hs
  · rw [List.map_append]
    exact read_on h.read hne hr hl
/-- A line for the last step's unit. -/
theorem PA.line {w wr : World} {text : Txt} {g n c : Nat} {m : List AV} {u : AV} {rest : Txt} (h : PA w wr text (some ⟨g, 0, none⟩) n c (m ++ [u]) rest) (hne : ¬ (rest = wEnd ∨ rest = [])) (hT : text.length ≤ 60000000) (word r : Txt) (hrl : r.length ≤ text.length) {more : Txt} (hl : more.length < rest.length)
    (hr : (moreU u.unit.srv word r).2 = true → readA numI ((m ++ [u]).map AV.act) rest = some (m.map AV.act ++ [⟨u.kind, u.name, u.file.ent, (moreU u.unit.srv word r).1⟩], more)) :
    Calls Tryz.prog 67 #[.pointer (some ⟨g, m.length * 9 + 5, none⟩), .string ⟨word.toArray⟩, .string ⟨r.toArray⟩] wr fun e w' => e = .returned (.bool (moreU u.unit.srv word r).2) ∧ Below w.heap.size w w' ∧
      ((moreU u.unit.srv word r).2 = true → ∃ l', PA w w' text (some ⟨g, 0, none⟩) n c l' more) := by
  obtain ⟨F, g1, g2⟩ := h.bld
  have hsm := h.small u (by simp)
  have hac := g1.own.acts.acts u (by simp)
  have e2 : u.unit.req.length = u.unit.n := by have := hac.req.len; simpa using this
  have e3 : u.unit.aft.length = u.unit.n2 := by have := hac.aft.len; simpa using this
  have q7 : u.unit.req.length + rest.length ≤ text.length := hsm.req
  have q8 : u.unit.aft.length + rest.length ≤ text.length := hsm.aft
  refine (moreA_any g1 word r (by omega) (by omega)).mono ?_
  rintro e w' ⟨u', F', rfl, hsrv, _, _, hb, hs, hF⟩
  have hbw : Below w.heap.size w w' := h.bel.trans (hs.below h.bel.size g2)
  refine ⟨rfl, hbw, fun hm => ⟨m ++ [⟨u.kind, u.name, u.file, u'⟩], ⟨F', hb, fun k hk => ?_⟩, hbw, fun x hx => ?_, by have := h.few; omega, ?_⟩⟩
  · rcases hF k hk with h1 | h1
    · exact g2 k h1
    · have := h.bel.size; omega
  · rcases List.mem_append.1 hx with hx | hx
    · exact (h.small x (List.mem_append.2 (.inl hx))).less (by omega)
    · rw [List.mem_singleton.1 hx]
      have h9 := (hsm.less (k' := more.length + 1) (by omega)).more word r hrl
      have e9 : (⟨u.kind, u.name, u.file, u'⟩ : AV).act = ⟨u.act.kind, u.act.name, u.act.file, (moreU u.act.unit word r).1⟩ := by
        show (⟨u.kind, u.name, u.file.ent, u'.srv⟩ : ActP) = _
        rw [hsrv]
        rfl
      rw [e9]
      exact h9
  · have h9 := read_on h.read hne (hr hm) hl
    rw [List.map_append]
    show ∃ f, more.length < f ∧ _ = readL numI f (m.map AV.act ++ [⟨u.kind, u.name, u.file.ent, u'.srv⟩]) more
    rw [hsrv]
    exact h9
def ParsePost (w : World) (text : Txt) : Ending → World → Prop := fun e w' => Below w.heap.size w w' ∧ ((parseP numI decI text = none ∧ e = .returned (.tuple #[.slice none 0 0, .int .i64 70])) ∨
  (∃ A n c l, e = .returned (.tuple #[.slice A n c, .int .i64 0]) ∧ parseP numI decI text = some (l.map AV.act) ∧ ActsAt w' w'.heap.size A n c l ∧ ∀ a ∈ l, SmallQ a))
end Go.Proofs.YtibndaianhlcaaaGreatDoor
namespace Go.Proofs.YtibndaianhlcaaaGreatDoor
open Go.RowKit Go.Sort Go.Shelf
open Go.WideShapes (bytes_inj)
set_option linter.unusedVariables false
set_option linter.unusedSimpArgs false

theorem front_le (c : UInt8) (l : Txt) : (frontT c l).length ≤ l.length := (List.takeWhile_sublist _).length_le
theorem after_le (c : UInt8) (l : Txt) : (afterT c l).length ≤ l.length := by
  unfold afterT
  rw [List.length_drop]
  have := (List.dropWhile_sublist (fun x => decide (x ≠ c)) (l := l)).length_le
  omega
theorem readA_plain (out : List ActP) (rest w : Txt) (k : Int) (hw : frontT 32 (frontT 10 rest) = w) (hk : (w = wStop ∧ k = 1) ∨ (w = wRemove ∧ k = 2) ∨ (w = wDrop ∧ k = 3) ∨ (w = wUser ∧ k = 5)) :
    readA numI out rest = some (out ++ [⟨k, afterT 32 (frontT 10 rest), ent0, srv0⟩], afterT 10 rest) := by
  unfold readA
  simp only [hw]
  rcases hk with ⟨rfl, rfl⟩ | ⟨rfl, rfl⟩ | ⟨rfl, rfl⟩ | ⟨rfl, rfl⟩
  · rw [if_pos rfl]
  · rw [if_neg (by decide), if_pos rfl]
  · rw [if_neg (by decide), if_neg (by decide), if_pos rfl]
  · rw [if_neg (by decide), if_neg (by decide), if_neg (by decide), if_pos rfl]
theorem readA_start (out : List ActP) (rest : Txt) (hw : frontT 32 (frontT 10 rest) = wStart) :
    readA numI out rest = some (out ++ [⟨6, afterT 32 (frontT 10 rest), ent0, ⟨afterT 32 (frontT 10 rest), [], [], []⟩⟩], afterT 10 rest) := by
  unfold readA
  simp only [hw]
  rw [if_neg (by decide), if_neg (by decide), if_neg (by decide), if_neg (by decide)]
  exact if_pos trivial
theorem readA_more (m : List ActP) (u : ActP) (rest w : Txt) (hw : frontT 32 (frontT 10 rest) = w) (h1 : w ≠ wStop) (h2 : w ≠ wRemove) (h3 : w ≠ wDrop) (h4 : w ≠ wUser) (h5 : w ≠ wStart) (h6 : w ≠ wFile) :
    readA numI (m ++ [u]) rest = if u.kind = 6 ∧ (moreU u.unit w (afterT 32 (frontT 10 rest))).2 = true then some (m ++ [⟨u.kind, u.name, u.file, (moreU u.unit w (afterT 32 (frontT 10 rest))).1⟩], afterT 10 rest) else none := by
  unfold readA
  simp only [hw]
  rw [if_neg h1, if_neg h2, if_neg h3, if_neg h4, if_neg h5, if_neg h6, List.getLast?_concat]
  simp only [List.dropLast_concat]
theorem readA_first (rest w : Txt) (hw : frontT 32 (frontT 10 rest) = w) (h1 : w ≠ wStop) (h2 : w ≠ wRemove) (h3 : w ≠ wDrop) (h4 : w ≠ wUser) (h5 : w ≠ wStart) (h6 : w ≠ wFile) : readA numI [] rest = none := by
  unfold readA
  simp only [hw]
  rw [if_neg h1, if_neg h2, if_neg h3, if_neg h4, if_neg h5, if_neg h6]
  rfl
def strLen : Value → Nat
  | .string b => b.size
  | _ => 0
/-- The variable of a step that is read. -/
def nameC (name : Txt) : Array Value := #[.int .i64 0, .string ⟨name.toArray⟩, .string ⟨#[]⟩, .int .i64 0, .slice none 0 0, .string ⟨#[]⟩, .string ⟨#[]⟩, .slice none 0 0, .slice none 0 0]
/-- A file's step is put into its variable, and behind the others. -/
theorem file_put21 {w wr w4 w5 : World} {text : Txt} {A : Option Addr} {n c : Nat} {l : List AV} {rest name more : Txt} {zz : Array Value} {kd : Int} {nm : Txt} {fv : EV} (h : PA w wr text A n c l rest) (hne : ¬ (rest = wEnd ∨ rest = [])) (hT : text.length ≤ 60000000) (hb4 : Below wr.heap.size wr w4)
    (hgv : Blk (w4.alloc (.cells zz 61)) w4.heap.size 61 zz) (hrd : readA numI (l.map AV.act) rest = some (l.map AV.act ++ [(fileP name more).1], (fileP name more).2)) (hact : (⟨kd, nm, fv, sv0⟩ : AV).act = (fileP name more).1)
    (hslc : Slc w5 w5.heap.size 1 fv.A fv.n fv.c (fv.data.map bv)) (hblk : ∀ x, fv.A = some x → (w4.alloc (.cells zz 61)).heap.size ≤ x.block ∧ x.block < w5.heap.size)
    (z1 : nm.length ≤ name.length) (z2 : fv.path.length ≤ name.length) (z3 : fv.n ≤ more.length) (z4 : (fileP name more).2.length ≤ more.length) (hml : more.length < rest.length) (hnl : name.length ≤ text.length) (hb5 : Below (w4.alloc (.cells zz 61)).heap.size (w4.alloc (.cells zz 61)) w5) :
    Blk w5 w4.heap.size 61 zz ∧ ∃ A' c' w9, (Builtin.append_ #[40, 40] 40 #[.slice A n c, .slice (some ⟨w5.heap.size, 0, none⟩) 1 1]).run Tryz.prog ((set9 w5 w4.heap.size (.int .i64 kd) (.string ⟨nm.toArray⟩) (.string ⟨fv.path.toArray⟩) (.int .i64 fv.kind) (.slice fv.A fv.n fv.c) (.string ⟨#[]⟩) (.string ⟨#[]⟩) (.slice none 0 0) (.slice none 0 0)).alloc (.cells (avArr ⟨kd, nm, fv, sv0⟩) 61)) = .ok (.slice A' (n + 1) c') w9 ∧
      PA w w9 text A' (n + 1) c' (l ++ [⟨kd, nm, fv, sv0⟩]) (fileP name more).2 := by
  have hg5 := hgv.below hb5 hgv.lt
  rw [World.size_alloc] at hblk
  have hba : Below wr.heap.size wr w5 := (hb4.alloc hb4.size (.cells zz 61)).trans (hb5.mono (by rw [World.size_alloc]; exact Nat.le_succ_of_le hb4.size))
  have hb9 : Below wr.heap.size wr (set9 w5 w4.heap.size (.int .i64 kd) (.string ⟨nm.toArray⟩) (.string ⟨fv.path.toArray⟩) (.int .i64 fv.kind) (.slice fv.A fv.n fv.c) (.string ⟨#[]⟩) (.string ⟨#[]⟩) (.slice none 0 0) (.slice none 0 0)) := set9_below hba hb4.size _ _ _ _ _ _ _ _ _
  have hz : ∀ v0 v1 v2 v3 v4 v5 v6 v7 v8, (set9 w5 w4.heap.size v0 v1 v2 v3 v4 v5 v6 v7 v8).heap.size = w5.heap.size := fun _ _ _ _ _ _ _ _ _ => by unfold set9; simp
  have hdl : fv.data.length = fv.n := by have := hslc.len; simpa using this
  have hfew := h.few
  have h9 := h.add hne hT hb9 ⟨kd, nm, fv, sv0⟩ (by rw [hact]; exact hrd) (by omega) ⟨by show nm.length ≤ _; omega, by show fv.path.length ≤ _; omega, by show fv.data.length ≤ _; omega, Nat.zero_le _, Nat.zero_le _, (fun t ht => by cases ht), by show 0 + _ ≤ _; omega, by show 0 + _ ≤ _; omega⟩
    (by rw [hz]; exact hslc.apartB fun x hx => set9_far (by have := (hblk x hx).1; omega) _ _ _ _ _ _ _ _ _) (fun x hx => by rw [hz]; exact ⟨by have := (hblk x hx).1; have := hb4.size; omega, (hblk x hx).2⟩) ⟨rfl, rfl, rfl, rfl⟩ ⟨rfl, rfl, rfl, rfl⟩
  rw [hz] at h9
  exact ⟨hg5, h9⟩
set_option maxRecDepth 100000 in
set_option maxHeartbeats 8000000 in
theorem parse21_any {w : World} {text : Txt} (hT : text.length ≤ 60000000) (hm : MaxOk w) (ha : AtoiOk w) (ht : TabOk w) :
    Calls Tryz.prog 33 #[.string ⟨text.toArray⟩] w (ParsePost w text) := by
  have HT := Lib.hid hT
  have HM := Lib.hid hm
  have HAT := Lib.hid ha
  have HTB := Lib.hid ht
  have HP0 := Lib.hid (PA.start w text)
  have tt : (ByteArray.mk text.toArray).toList = text := Go.ByteArray.toList_eq _
  clear hT hm ha ht
  go_enter Tryz.func33, Tryz.ntmps33
  go_wp2_with (fail)
  go_loopw [4, 5] (fun o r wr => ∃ (A : Option Addr) (n c : Nat) (l : List AV) (rest : Txt), o = .slice A n c ∧ r = .string ⟨rest.toArray⟩ ∧ Aside (PA w wr text A n c l rest)) (fun _ r _ => strLen r)
  case atStart => exact ⟨none, 0, 0, [], text, rfl, rfl, HP0.out⟩
  case round =>
    obtain ⟨A, n, c, l, rest, rfl, rfl, hpa⟩ := hrel
    have tr : (ByteArray.mk rest.toArray).toList = rest := Go.ByteArray.toList_eq _
    have hsz : strLen (.string ⟨rest.toArray⟩) = rest.length := by show (ByteArray.mk rest.toArray).size = _; exact bsz_mk rest
    have hrl : rest.length ≤ text.length := by have := hpa.out.few; omega
    have hln := hpa.out.len
    by_cases he : rest = wEnd ∨ rest = []
    · have HE := Lib.hid he
      have htest : ((rest == [101, 110, 100, 10]) = true) ∨ ((rest == [101, 110, 100, 10]) = false ∧ (rest == []) = true) := by
        rcases he with h | h
        · exact .inl (by rw [h]; rfl)
        · exact .inr ⟨by rw [h]; rfl, by rw [h]; rfl⟩
      have htx := text21_any hpa.out.acts (Nat.le_refl _) (hpa.out.q HT.out) (HTB.out.below hpa.out.bel)
      have HPA := Lib.hid hpa.out
      obtain ⟨X, hX⟩ : ∃ X, X = (textA decI (l.map AV.act)).getD [] := ⟨_, rfl⟩
      have HX := Lib.hid hX
      rw [← hX] at htx
      have HNE := Lib.hid (show l.map AV.act = [] ∨ text ≠ [] from by
        rcases Nat.eq_zero_or_pos l.length with h0 | h0
        · exact .inl (by rw [List.eq_nil_of_length_eq_zero h0]; rfl)
        · refine .inr fun h9 => ?_
          have := hpa.out.few
          rw [h9] at this
          simp at this
          omega)
      have tx : (ByteArray.mk X.toArray).toList = X := Go.ByteArray.toList_eq _
      clear hpa he hX hln hrl hsz
      by_cases hq : X = text
      · have hxe : (X == text) = true := by rw [beq_iff_eq]; exact hq
        have HQ := Lib.hid hq
        clear hq
        rcases htest with h1 | ⟨h1, h2⟩
        all_goals
          go_wp2_with (go_at_call 31; refine htx.mono ?_; clear htx; rintro e2 w2 ⟨b2, rfl, hd2, hb2⟩; obtain rfl : b2 = ⟨X.toArray⟩ := bytes_inj (by rw [hd2]); have HB2 := Lib.hid hb2; clear hb2 hd2)
          go_ret2
          exact ⟨HPA.out.bel.trans (HB2.out.mono HPA.out.bel.size), .inr ⟨A, n, c, l, rfl, by rw [read_end HPA.out.read HE.out, if_pos ((text_same HNE.out).2 (by rw [← HX.out]; exact HQ.out))], (HPA.out.below HB2.out).acts, HPA.out.q HT.out⟩⟩
      · have hxe : (X == text) = false := by rw [beq_eq_false_iff_ne]; exact hq
        have HQ := Lib.hid hq
        clear hq
        rcases htest with h1 | ⟨h1, h2⟩
        all_goals
          go_wp2_with (go_at_call 31; refine htx.mono ?_; clear htx; rintro e2 w2 ⟨b2, rfl, hd2, hb2⟩; obtain rfl : b2 = ⟨X.toArray⟩ := bytes_inj (by rw [hd2]); have HB2 := Lib.hid hb2; clear hb2 hd2)
          go_ret2
          exact ⟨HPA.out.bel.trans (HB2.out.mono HPA.out.bel.size), .inl ⟨by rw [read_end HPA.out.read HE.out, if_neg (fun h9 => HQ.out (by rw [HX.out]; exact (text_same HNE.out).1 h9))], rfl⟩⟩
    · have HNE := Lib.hid he
      have g1 : (rest == [101, 110, 100, 10]) = false := by rw [beq_eq_false_iff_ne]; exact fun h9 => he (.inl h9)
      have g2 : (rest == []) = false := by rw [beq_eq_false_iff_ne]; exact fun h9 => he (.inr h9)
      have hcut1 := cutS_any 10 rest (by have := HT.out; omega) wr
      have hml := after_less 10 (l := rest) (fun h9 => he (.inr h9))
      have hll := front_le 10 rest
      have hwl := front_le 32 (frontT 10 rest)
      have hnl := after_le 32 (frontT 10 rest)
      have RP := Lib.hid (fun (k : Int) h => readA_plain (l.map AV.act) rest _ k rfl h)
      have RS := Lib.hid (readA_start (l.map AV.act) rest)
      have RF := Lib.hid (readA_file (l.map AV.act) rest)
      have RM := Lib.hid (fun m u h1 h2 h3 h4 h5 h6 => readA_more m u rest _ rfl h1 h2 h3 h4 h5 h6)
      have R0 := Lib.hid (readA_first rest _ rfl)
      have hcut2 : ∀ W, _ := fun W => cutS_any 32 (frontT 10 rest) (by have := HT.out; omega) W
      have HPA := Lib.hid hpa.out
      generalize afterT 32 (frontT 10 rest) = name at *
      generalize hwd : frontT 32 (frontT 10 rest) = wd at *
      generalize afterT 10 rest = more at *
      have HLN := Lib.hid (show name.length ≤ rest.length by omega)
      clear hwd hpa he hnl hwl
      generalize frontT 10 rest = line at *
      have HCUT2 := Lib.hid hcut2
      clear hcut2 hll
      by_cases hw1 : wd = wStop
      · have HADD := Lib.hid (show ∀ w4, Below wr.heap.size wr w4 → ∃ A' c' w9, (Builtin.append_ #[40, 40] 40 #[.slice A n c, .slice (some ⟨w4.heap.size + 1, 0, none⟩) 1 1]).run Tryz.prog ((w4.alloc (.cells (avArr ⟨1, name, ev0, sv0⟩) 61)).alloc (.cells (avArr ⟨1, name, ev0, sv0⟩) 61)) = .ok (.slice A' (n + 1) c') w9 ∧ PA w w9 text A' (n + 1) c' (l ++ [⟨1, name, ev0, sv0⟩]) more from fun w4 hb4 => by
          have h9 := HPA.out.add HNE.out HT.out (w2 := w4.alloc (.cells (avArr ⟨1, name, ev0, sv0⟩) 61)) (hb4.alloc hb4.size _) ⟨1, name, ev0, sv0⟩ (RP.out 1 (.inl ⟨hw1, rfl⟩)) hml ⟨by show name.length ≤ _; have := HLN.out; omega, Nat.zero_le _, Nat.zero_le _, Nat.zero_le _, Nat.zero_le _, (fun t ht => by cases ht), by show 0 + more.length ≤ _; omega, by show 0 + more.length ≤ _; omega⟩ (slc_none _ _ _) (fun x hx => by cases hx) ⟨rfl, rfl, rfl, rfl⟩ ⟨rfl, rfl, rfl, rfl⟩
          rwa [World.size_alloc] at h9)
        subst hw1
        unfold wStop avArr ev0 sv0 at *
        simp only at HADD
        go_wp2_with (first
          | (go_at_call 66; refine hcut1.mono ?_; clear hcut1; rintro e2 w2 ⟨⟨b2, rfl⟩, q2, hw2⟩; have hb2 := (show Below wr.heap.size wr w2 by rw [hw2]; exact bel_drewN (Below.refl _ _) q2); have hcut2 := HCUT2.out w2; have HB2 := Lib.hid hb2; clear hw2 hb2)
          | (go_at_call 66; refine hcut2.mono ?_; clear hcut2; rintro e4 w4 ⟨⟨b4, rfl⟩, q4, hw4⟩; have hb4 := (show Below wr.heap.size wr w4 by rw [hw4]; exact bel_drewN HB2.out q4); obtain ⟨A', c', w9, hrun, hpb⟩ := HADD.out w4 hb4; have HPB := Lib.hid hpb; clear hpb; have HB4 := Lib.hid hb4; clear hw4 hb4)
          | (at_builtin; refine wpList_append_run rfl _ _ _ rfl rfl rfl hrun ?_; clear hrun))
        exact ⟨⟨A', n + 1, c', _, more, rfl, rfl, HPB.out⟩, by rw [hsz]; show (ByteArray.mk more.toArray).size < _; rw [bsz_mk]; omega⟩
      by_cases hw2 : wd = wRemove
      · have HADD := Lib.hid (show ∀ w4, Below wr.heap.size wr w4 → ∃ A' c' w9, (Builtin.append_ #[40, 40] 40 #[.slice A n c, .slice (some ⟨w4.heap.size + 1, 0, none⟩) 1 1]).run Tryz.prog ((w4.alloc (.cells (avArr ⟨2, name, ev0, sv0⟩) 61)).alloc (.cells (avArr ⟨2, name, ev0, sv0⟩) 61)) = .ok (.slice A' (n + 1) c') w9 ∧ PA w w9 text A' (n + 1) c' (l ++ [⟨2, name, ev0, sv0⟩]) more from fun w4 hb4 => by
          have h9 := HPA.out.add HNE.out HT.out (w2 := w4.alloc (.cells (avArr ⟨2, name, ev0, sv0⟩) 61)) (hb4.alloc hb4.size _) ⟨2, name, ev0, sv0⟩ (RP.out 2 (.inr (.inl ⟨hw2, rfl⟩))) hml ⟨by show name.length ≤ _; have := HLN.out; omega, Nat.zero_le _, Nat.zero_le _, Nat.zero_le _, Nat.zero_le _, (fun t ht => by cases ht), by show 0 + more.length ≤ _; omega, by show 0 + more.length ≤ _; omega⟩ (slc_none _ _ _) (fun x hx => by cases hx) ⟨rfl, rfl, rfl, rfl⟩ ⟨rfl, rfl, rfl, rfl⟩
          rwa [World.size_alloc] at h9)
        subst hw2
        unfold wRemove avArr ev0 sv0 at *
        simp only at HADD
        go_wp2_with (first
          | (go_at_call 66; refine hcut1.mono ?_; clear hcut1; rintro e2 w2 ⟨⟨b2, rfl⟩, q2, hw2⟩; have hb2 := (show Below wr.heap.size wr w2 by rw [hw2]; exact bel_drewN (Below.refl _ _) q2); have hcut2 := HCUT2.out w2; have HB2 := Lib.hid hb2; clear hw2 hb2)
          | (go_at_call 66; refine hcut2.mono ?_; clear hcut2; rintro e4 w4 ⟨⟨b4, rfl⟩, q4, hw4⟩; have hb4 := (show Below wr.heap.size wr w4 by rw [hw4]; exact bel_drewN HB2.out q4); obtain ⟨A', c', w9, hrun, hpb⟩ := HADD.out w4 hb4; have HPB := Lib.hid hpb; clear hpb; have HB4 := Lib.hid hb4; clear hw4 hb4)
          | (at_builtin; refine wpList_append_run rfl _ _ _ rfl rfl rfl hrun ?_; clear hrun))
        exact ⟨⟨A', n + 1, c', _, more, rfl, rfl, HPB.out⟩, by rw [hsz]; show (ByteArray.mk more.toArray).size < _; rw [bsz_mk]; omega⟩
      by_cases hw3 : wd = wDrop
      · have HADD := Lib.hid (show ∀ w4, Below wr.heap.size wr w4 → ∃ A' c' w9, (Builtin.append_ #[40, 40] 40 #[.slice A n c, .slice (some ⟨w4.heap.size + 1, 0, none⟩) 1 1]).run Tryz.prog ((w4.alloc (.cells (avArr ⟨3, name, ev0, sv0⟩) 61)).alloc (.cells (avArr ⟨3, name, ev0, sv0⟩) 61)) = .ok (.slice A' (n + 1) c') w9 ∧ PA w w9 text A' (n + 1) c' (l ++ [⟨3, name, ev0, sv0⟩]) more from fun w4 hb4 => by
          have h9 := HPA.out.add HNE.out HT.out (w2 := w4.alloc (.cells (avArr ⟨3, name, ev0, sv0⟩) 61)) (hb4.alloc hb4.size _) ⟨3, name, ev0, sv0⟩ (RP.out 3 (.inr (.inr (.inl ⟨hw3, rfl⟩)))) hml ⟨by show name.length ≤ _; have := HLN.out; omega, Nat.zero_le _, Nat.zero_le _, Nat.zero_le _, Nat.zero_le _, (fun t ht => by cases ht), by show 0 + more.length ≤ _; omega, by show 0 + more.length ≤ _; omega⟩ (slc_none _ _ _) (fun x hx => by cases hx) ⟨rfl, rfl, rfl, rfl⟩ ⟨rfl, rfl, rfl, rfl⟩
          rwa [World.size_alloc] at h9)
        subst hw3
        unfold wDrop avArr ev0 sv0 at *
        simp only at HADD
        go_wp2_with (first
          | (go_at_call 66; refine hcut1.mono ?_; clear hcut1; rintro e2 w2 ⟨⟨b2, rfl⟩, q2, hw2⟩; have hb2 := (show Below wr.heap.size wr w2 by rw [hw2]; exact bel_drewN (Below.refl _ _) q2); have hcut2 := HCUT2.out w2; have HB2 := Lib.hid hb2; clear hw2 hb2)
          | (go_at_call 66; refine hcut2.mono ?_; clear hcut2; rintro e4 w4 ⟨⟨b4, rfl⟩, q4, hw4⟩; have hb4 := (show Below wr.heap.size wr w4 by rw [hw4]; exact bel_drewN HB2.out q4); obtain ⟨A', c', w9, hrun, hpb⟩ := HADD.out w4 hb4; have HPB := Lib.hid hpb; clear hpb; have HB4 := Lib.hid hb4; clear hw4 hb4)
          | (at_builtin; refine wpList_append_run rfl _ _ _ rfl rfl rfl hrun ?_; clear hrun))
        exact ⟨⟨A', n + 1, c', _, more, rfl, rfl, HPB.out⟩, by rw [hsz]; show (ByteArray.mk more.toArray).size < _; rw [bsz_mk]; omega⟩
      by_cases hw4 : wd = wUser
      · have HADD := Lib.hid (show ∀ w4, Below wr.heap.size wr w4 → ∃ A' c' w9, (Builtin.append_ #[40, 40] 40 #[.slice A n c, .slice (some ⟨w4.heap.size + 1, 0, none⟩) 1 1]).run Tryz.prog ((w4.alloc (.cells (avArr ⟨5, name, ev0, sv0⟩) 61)).alloc (.cells (avArr ⟨5, name, ev0, sv0⟩) 61)) = .ok (.slice A' (n + 1) c') w9 ∧ PA w w9 text A' (n + 1) c' (l ++ [⟨5, name, ev0, sv0⟩]) more from fun w4 hb4 => by
          have h9 := HPA.out.add HNE.out HT.out (w2 := w4.alloc (.cells (avArr ⟨5, name, ev0, sv0⟩) 61)) (hb4.alloc hb4.size _) ⟨5, name, ev0, sv0⟩ (RP.out 5 (.inr (.inr (.inr ⟨hw4, rfl⟩)))) hml ⟨by show name.length ≤ _; have := HLN.out; omega, Nat.zero_le _, Nat.zero_le _, Nat.zero_le _, Nat.zero_le _, (fun t ht => by cases ht), by show 0 + more.length ≤ _; omega, by show 0 + more.length ≤ _; omega⟩ (slc_none _ _ _) (fun x hx => by cases hx) ⟨rfl, rfl, rfl, rfl⟩ ⟨rfl, rfl, rfl, rfl⟩
          rwa [World.size_alloc] at h9)
        subst hw4
        unfold wUser avArr ev0 sv0 at *
        simp only at HADD
        go_wp2_with (first
          | (go_at_call 66; refine hcut1.mono ?_; clear hcut1; rintro e2 w2 ⟨⟨b2, rfl⟩, q2, hw2⟩; have hb2 := (show Below wr.heap.size wr w2 by rw [hw2]; exact bel_drewN (Below.refl _ _) q2); have hcut2 := HCUT2.out w2; have HB2 := Lib.hid hb2; clear hw2 hb2)
          | (go_at_call 66; refine hcut2.mono ?_; clear hcut2; rintro e4 w4 ⟨⟨b4, rfl⟩, q4, hw4⟩; have hb4 := (show Below wr.heap.size wr w4 by rw [hw4]; exact bel_drewN HB2.out q4); obtain ⟨A', c', w9, hrun, hpb⟩ := HADD.out w4 hb4; have HPB := Lib.hid hpb; clear hpb; have HB4 := Lib.hid hb4; clear hw4 hb4)
          | (at_builtin; refine wpList_append_run rfl _ _ _ rfl rfl rfl hrun ?_; clear hrun))
        exact ⟨⟨A', n + 1, c', _, more, rfl, rfl, HPB.out⟩, by rw [hsz]; show (ByteArray.mk more.toArray).size < _; rw [bsz_mk]; omega⟩
      by_cases hw5 : wd = wStart
      · have HADD := Lib.hid (show ∀ w4, Below wr.heap.size wr w4 → ∃ A' c' w9, (Builtin.append_ #[40, 40] 40 #[.slice A n c, .slice (some ⟨w4.heap.size + 1, 0, none⟩) 1 1]).run Tryz.prog ((w4.alloc (.cells (avArr ⟨6, name, ev0, ⟨name, [], [], none, 0, 0, [], none, 0, 0⟩⟩) 61)).alloc (.cells (avArr ⟨6, name, ev0, ⟨name, [], [], none, 0, 0, [], none, 0, 0⟩⟩) 61)) = .ok (.slice A' (n + 1) c') w9 ∧ PA w w9 text A' (n + 1) c' (l ++ [⟨6, name, ev0, ⟨name, [], [], none, 0, 0, [], none, 0, 0⟩⟩]) more from fun w4 hb4 => by
          have h9 := HPA.out.add HNE.out HT.out (w2 := w4.alloc (.cells (avArr ⟨6, name, ev0, ⟨name, [], [], none, 0, 0, [], none, 0, 0⟩⟩) 61)) (hb4.alloc hb4.size _) ⟨6, name, ev0, ⟨name, [], [], none, 0, 0, [], none, 0, 0⟩⟩ (RS.out hw5) hml ⟨by show name.length ≤ _; have := HLN.out; omega, Nat.zero_le _, Nat.zero_le _, by show name.length ≤ _; have := HLN.out; omega, Nat.zero_le _, (fun t ht => by cases ht), by show 0 + more.length ≤ _; omega, by show 0 + more.length ≤ _; omega⟩ (slc_none _ _ _) (fun x hx => by cases hx) ⟨rfl, rfl, rfl, rfl⟩ ⟨rfl, rfl, rfl, rfl⟩
          rwa [World.size_alloc] at h9)
        subst hw5
        unfold wStart avArr ev0 at *
        simp only at HADD
        go_wp2_with (first
          | (go_at_call 66; refine hcut1.mono ?_; clear hcut1; rintro e2 w2 ⟨⟨b2, rfl⟩, q2, hw2⟩; have hb2 := (show Below wr.heap.size wr w2 by rw [hw2]; exact bel_drewN (Below.refl _ _) q2); have hcut2 := HCUT2.out w2; have HB2 := Lib.hid hb2; clear hw2 hb2)
          | (go_at_call 66; refine hcut2.mono ?_; clear hcut2; rintro e4 w4 ⟨⟨b4, rfl⟩, q4, hw4⟩; have hb4 := (show Below wr.heap.size wr w4 by rw [hw4]; exact bel_drewN HB2.out q4); obtain ⟨A', c', w9, hrun, hpb⟩ := HADD.out w4 hb4; have HPB := Lib.hid hpb; clear hpb; have HB4 := Lib.hid hb4; clear hw4 hb4)
          | (at_builtin; refine wpList_append_run rfl _ _ _ rfl rfl rfl hrun ?_; clear hrun))
        exact ⟨⟨A', n + 1, c', _, more, rfl, rfl, HPB.out⟩, by rw [hsz]; show (ByteArray.mk more.toArray).size < _; rw [bsz_mk]; omega⟩
      by_cases hw6 : wd = wFile
      · have HFL := Lib.hid (show ∀ w4, Below wr.heap.size wr w4 → _ from fun w4 hb4 => file21_any (w := w4.alloc (.cells (nameC name) 61)) (name := name) (rest := more) (by have := HLN.out; have := HT.out; omega) (by have := HT.out; omega) (HM.out.below (HPA.out.bel.trans ((hb4.alloc hb4.size _).mono HPA.out.bel.size))) (HAT.out.below (HPA.out.bel.trans ((hb4.alloc hb4.size _).mono HPA.out.bel.size))))
        have HRF := Lib.hid (RF.out hw6)
        subst hw6
        unfold wFile nameC at *
        go_wp2_with (first
          | (go_at_call 66; refine hcut1.mono ?_; clear hcut1; rintro e2 w2 ⟨⟨b2, rfl⟩, q2, hw2⟩; have hb2 := (show Below wr.heap.size wr w2 by rw [hw2]; exact bel_drewN (Below.refl _ _) q2); have hcut2 := HCUT2.out w2; have HB2 := Lib.hid hb2; clear hw2 hb2)
          | (go_at_call 66; refine hcut2.mono ?_; clear hcut2; rintro e4 w4 ⟨⟨b4, rfl⟩, q4, hw4⟩; have hb4 := (show Below wr.heap.size wr w4 by rw [hw4]; exact bel_drewN HB2.out q4); have hfl := HFL.out w4 hb4; have hgv := Blk.new w4 61 #[.int .i64 0, .string ⟨name.toArray⟩, .string ⟨#[]⟩, .int .i64 0, .slice none 0 0, .string ⟨#[]⟩, .string ⟨#[]⟩, .slice none 0 0, .slice none 0 0]; have HB4 := Lib.hid hb4; clear hw4 hb4)
          | (go_at_call 78; refine hfl.mono ?_; clear hfl; rintro e5 w5 ⟨⟨fk0, nm0, ⟨p0, k0, d0, A0, n0, c0⟩, u0⟩, rfl, hact, hun, hslc, hblk, z1, z2, z3, z4, hb5⟩; obtain rfl : u0 = sv0 := hun; unfold avArr sv0; obtain ⟨hg5, A', c', w9, hrun, hpb⟩ := file_put21 HPA.out HNE.out HT.out HB4.out hgv HRF.out hact hslc hblk z1 z2 z3 z4 hml (by have := HLN.out; omega) hb5; obtain ⟨x0, x1, x2, x3, x4, x5, x6, x7, x8⟩ := nine_of hg5; have y0 := hg5.frozen 0; have y1 := hg5.frozen 1; have y2 := hg5.frozen 2; have y3 := hg5.frozen 3; have y4 := hg5.frozen 4; have y5 := hg5.frozen 5; have y6 := hg5.frozen 6; have y7 := hg5.frozen 7; have y8 := hg5.frozen 8; have HPB := Lib.hid hpb; unfold set9 avArr sv0 at hrun; simp only at hrun; clear hact hslc hblk hb5 hpb hg5 hgv)
          | (at_builtin; refine wpList_append_run rfl _ _ _ rfl rfl rfl hrun ?_; clear hrun))
        exact ⟨⟨A', n + 1, c', _, _, rfl, rfl, HPB.out⟩, by rw [hsz]; show (ByteArray.mk _).size < _; rw [bsz_mk]; omega⟩
      have e1 : (wd == [115, 116, 111, 112]) = false := by rw [beq_eq_false_iff_ne]; exact hw1
      have e2 : (wd == [114, 101, 109, 111, 118, 101]) = false := by rw [beq_eq_false_iff_ne]; exact hw2
      have e3 : (wd == [100, 114, 111, 112]) = false := by rw [beq_eq_false_iff_ne]; exact hw3
      have e4 : (wd == [117, 115, 101, 114]) = false := by rw [beq_eq_false_iff_ne]; exact hw4
      have e5 : (wd == [115, 116, 97, 114, 116]) = false := by rw [beq_eq_false_iff_ne]; exact hw5
      have e6 : (wd == [102, 105, 108, 101]) = false := by rw [beq_eq_false_iff_ne]; exact hw6
      have tw : (ByteArray.mk wd.toArray).toList = wd := Go.ByteArray.toList_eq _
      replace RM := Lib.hid (fun m u => RM.out m u hw1 hw2 hw3 hw4 hw5 hw6)
      replace R0 := Lib.hid (R0.out hw1 hw2 hw3 hw4 hw5 hw6)
      clear hw1 hw2 hw3 hw4 hw5 hw6 RP RS RF
      rcases Nat.eq_zero_or_pos n with hn0 | hn0
      · subst hn0
        have HNONE := Lib.hid (show parseP numI decI text = none from read_not HPA.out.read HNE.out (by rw [List.eq_nil_of_length_eq_zero hln]; exact R0.out))
        go_wp2_with (first
          | (go_at_call 66; refine hcut1.mono ?_; clear hcut1; rintro e2 w2 ⟨⟨b2, rfl⟩, q2, hw2⟩; have hb2 := (show Below wr.heap.size wr w2 by rw [hw2]; exact bel_drewN (Below.refl _ _) q2); have hcut2 := HCUT2.out w2; have HB2 := Lib.hid hb2; clear hw2 hb2)
          | (go_at_call 66; refine hcut2.mono ?_; clear hcut2; rintro e4 w4 ⟨⟨b4, rfl⟩, q4, hw4⟩; have hb4 := (show Below wr.heap.size wr w4 by rw [hw4]; exact bel_drewN HB2.out q4); have HBF := Lib.hid (hb4.alloc hb4.size (.cells (nameC name) 61)); have HB4 := Lib.hid hb4; clear hw4 hb4))
        go_ret2
        exact ⟨HPA.out.bel.trans (HBF.out.mono HPA.out.bel.size), .inl ⟨HNONE.out, rfl⟩⟩
      obtain ⟨m, u, rfl⟩ : ∃ m u, l = m ++ [u] := ⟨l.dropLast, l.getLast (fun h9 => by rw [h9] at hln; simp at hln; omega), (List.dropLast_concat_getLast _).symm⟩
      obtain ⟨F, hbd, hbF⟩ := HPA.out.bld
      obtain ⟨hn1, g, hA, hg1, hg2, hgc, hgf⟩ := hbd.last
      subst hn1 hA
      have hpu : ((m.length + 1 : Nat) : Int) - 1 = (m.length : Int) := by omega
      have hnz : (((m.length + 1 : Nat) : Int) == 0) = false := by rw [beq_eq_false_iff_ne]; omega
      have hk0 := hgc 0 (by decide)
      have HK := Lib.hid (show ∀ W, Below wr.heap.size wr W → W.cell? ⟨g, m.length * 9, none⟩ = some (.int .i64 u.kind) from fun W hW => (hW.cell (p := ⟨g, m.length * 9, none⟩) hg2).trans hk0)
      replace RM := Lib.hid ((congrArg (fun x => readA numI x rest) (show (m ++ [u]).map AV.act = m.map AV.act ++ [u.act] by rw [List.map_append]; rfl)).trans (RM.out (m.map AV.act) u.act))
      have hmn : m.length + 1 ≤ 60000000 := by have := HPA.out.few; have := HT.out; omega
      clear hbd hbF hg1 hg2 hgc hgf hk0 hln hn0
      by_cases hk6 : u.kind = 6
      · have h6 : (u.kind == 6) = true := by rw [beq_iff_eq]; exact hk6
        have HMO := Lib.hid (show ∀ w4, Below wr.heap.size wr w4 → _ from fun w4 hb4 => (HPA.out.below (hb4.alloc hb4.size (.cells (nameC name) 61))).line HNE.out HT.out wd name (by have := HLN.out; omega) (more := more) hml (fun h9 => by rw [RM.out, if_pos ⟨hk6, h9⟩]; rfl))
        cases hmv : (moreU u.unit.srv wd name).2 with
        | true =>
          rw [hmv] at HMO
          go_wp2_with (first
            | (go_at_call 66; refine hcut1.mono ?_; clear hcut1; rintro e2 w2 ⟨⟨b2, rfl⟩, q2, hw2⟩; have hb2 := (show Below wr.heap.size wr w2 by rw [hw2]; exact bel_drewN (Below.refl _ _) q2); have hcut2 := HCUT2.out w2; have HB2 := Lib.hid hb2; clear hw2 hb2)
            | (go_at_call 66; refine hcut2.mono ?_; clear hcut2; rintro e4 w4 ⟨⟨b4, rfl⟩, q4, hw4⟩; have hb4 := (show Below wr.heap.size wr w4 by rw [hw4]; exact bel_drewN HB2.out q4); have hmo := HMO.out w4 hb4; have hkc := HK.out _ (hb4.alloc hb4.size (.cells (nameC name) 61)); unfold nameC at hmo hkc; have HB4 := Lib.hid hb4; clear hw4 hb4)
            | (go_at_call 67; refine hmo.mono ?_; clear hmo; rintro e6 w6 ⟨rfl, hb6, hp6⟩; obtain ⟨l6, hp6⟩ := hp6 (by simp); have HP6 := Lib.hid hp6; clear hb6 hp6))
          exact ⟨⟨_, _, c, l6, more, rfl, rfl, HP6.out⟩, by rw [hsz]; show (ByteArray.mk more.toArray).size < _; rw [bsz_mk]; omega⟩
        | false =>
          rw [hmv] at HMO
          have HNONE := Lib.hid (show parseP numI decI text = none from read_not HPA.out.read HNE.out (by rw [RM.out, if_neg]; rintro ⟨_, h9⟩; rw [show (moreU u.act.unit wd name).2 = false from hmv] at h9; cases h9))
          go_wp2_with (first
            | (go_at_call 66; refine hcut1.mono ?_; clear hcut1; rintro e2 w2 ⟨⟨b2, rfl⟩, q2, hw2⟩; have hb2 := (show Below wr.heap.size wr w2 by rw [hw2]; exact bel_drewN (Below.refl _ _) q2); have hcut2 := HCUT2.out w2; have HB2 := Lib.hid hb2; clear hw2 hb2)
            | (go_at_call 66; refine hcut2.mono ?_; clear hcut2; rintro e4 w4 ⟨⟨b4, rfl⟩, q4, hw4⟩; have hb4 := (show Below wr.heap.size wr w4 by rw [hw4]; exact bel_drewN HB2.out q4); have hmo := HMO.out w4 hb4; have hkc := HK.out _ (hb4.alloc hb4.size (.cells (nameC name) 61)); unfold nameC at hmo hkc; have HB4 := Lib.hid hb4; clear hw4 hb4)
            | (go_at_call 67; refine hmo.mono ?_; clear hmo; rintro e6 w6 ⟨rfl, hb6, hp6⟩; have HBG := Lib.hid hb6; clear hb6 hp6))
          go_ret2
          exact ⟨HBG.out, .inl ⟨HNONE.out, rfl⟩⟩
      · have h6 : (u.kind == 6) = false := by rw [beq_eq_false_iff_ne]; exact hk6
        have HNONE := Lib.hid (show parseP numI decI text = none from read_not HPA.out.read HNE.out (by rw [RM.out, if_neg (fun h9 => hk6 h9.1)]))
        go_wp2_with (first
          | (go_at_call 66; refine hcut1.mono ?_; clear hcut1; rintro e2 w2 ⟨⟨b2, rfl⟩, q2, hw2⟩; have hb2 := (show Below wr.heap.size wr w2 by rw [hw2]; exact bel_drewN (Below.refl _ _) q2); have hcut2 := HCUT2.out w2; have HB2 := Lib.hid hb2; clear hw2 hb2)
          | (go_at_call 66; refine hcut2.mono ?_; clear hcut2; rintro e4 w4 ⟨⟨b4, rfl⟩, q4, hw4⟩; have hb4 := (show Below wr.heap.size wr w4 by rw [hw4]; exact bel_drewN HB2.out q4); have hkc := HK.out _ (hb4.alloc hb4.size (.cells (nameC name) 61)); have HBF := Lib.hid (hb4.alloc hb4.size (.cells (nameC name) 61)); unfold nameC at hkc; have HB4 := Lib.hid hb4; clear hw4 hb4))
        go_ret2
        exact ⟨HPA.out.bel.trans (HBF.out.mono HPA.out.bel.size), .inl ⟨HNONE.out, rfl⟩⟩
end Go.Proofs.YtibndaianhlcaaaGreatDoor
