/- What a script on a space keeps: the space, the space by definition, and the one that is safe. -/
import Derived.Test.YtmhgahkainmbkaaAllocRefN
namespace Go.Proofs.Ytmhgahkainmbkaa
open Go.RowKit
set_option linter.unusedVariables false
set_option linter.unusedSimpArgs false
theorem load_rs_mark (x : Value) : Instr.loadAt 103 x = LoadS 103 x := rfl
theorem store_rs_mark (x v : Value) : Instr.storeAt 103 x v = StoreS 103 x v := rfl
theorem i_rs : (Try.prog.info? 103).map (·.size) = some 10 := by kernel_rfl
theorem refV_size (n gb nb cb gi ni ci : Nat) (sv : Value) : (refV n gb nb cb gi ni ci sv).toArray.size = 10 := by simp [refV, refCells]
theorem IRow.wide {w : World} {F G : Nat → Prop} {v : Value} {l : List Nat} (h : IRow w F v l) (hG : ∀ k, F k → G k) : IRow w G v l := h.kept (fun _ _ _ => rfl) hG
theorem BRow.row_far {w : World} {g cap : Nat} {l : List Bool} (h : BRow w g cap l) {q : Nat} (hq : g ≠ q) (cs : Array Value) : BRow (w.setRow q cs) g cap l := by
  obtain ⟨cur, h1, h2, h3⟩ := h.at_
  exact ⟨h.le, h.most, cur, h1.row_far hq cs, h2, h3⟩
theorem setRow_at {w : World} {q k : Nat} (h : k ≠ q) (cs : Array Value) : (w.setRow q cs).heap[k]? = w.heap[k]? := by
  simp only [World.setRow, Array.getElem?_modify]
  rw [if_neg (fun e => h e.symm)]
/-- The whole of a space by definition is read. -/
theorem RefParts.load {w : World} {F : Nat → Prop} {pr n gb cb gi ci : Nat} {sv : Value} {R : RefM} (h : RefParts w F pr n gb cb gi ci sv R) : (LoadS 103 (.pointer (some ⟨pr, 0, none⟩))).run Try.prog w = .ok (.agg (refV n gb R.blk.length cb gi R.ino.length ci sv).toArray) w := by
  have := LoadS.of_blk (P := Try.prog) (ty := 103) (o := 0) (n := 10) h.head Try.underlying103 rfl i_rs (by simp [refV, refCells])
  rw [show (refV n gb R.blk.length cb gi R.ino.length ci sv).toArray.extract 0 (0 + 10) = (refV n gb R.blk.length cb gi R.ino.length ci sv).toArray by simp [refV, refCells]] at this
  exact this
/-- And written over another one. -/
theorem RefParts.over {w : World} {F : Nat → Prop} {q n gb cb gi ci : Nat} {sv : Value} {R : RefM} (h : RefParts w F q n gb cb gi ci sv R) {pr : Nat} {cs : Array Value} (hp : Blk w pr 103 cs) (hcs : cs.size = 10) (hF : ¬ F pr) :
    (StoreS 103 (.pointer (some ⟨pr, 0, none⟩)) (.agg (refV n gb R.blk.length cb gi R.ino.length ci sv).toArray)).run Try.prog w = .ok () (w.setRow pr (refV n gb R.blk.length cb gi R.ino.length ci sv).toArray) ∧
    RefParts (w.setRow pr (refV n gb R.blk.length cb gi R.ino.length ci sv).toArray) (fun k => k = pr ∨ F k) pr n gb cb gi ci sv R := by
  constructor
  · have := StoreS.of_blk (P := Try.prog) (ty := 103) (o := 0) (vs := (refV n gb R.blk.length cb gi R.ino.length ci sv).toArray) hp (by rw [i_rs, refV_size]) (by rw [refV_size, hcs]; exact Nat.le_refl _) (fun v hv => by
      obtain ⟨A, c, rfl, _⟩ := h.stg.slc
      simp [refV, refCells] at hv
      rcases hv with rfl | rfl | rfl | rfl | rfl | rfl | rfl | rfl | rfl | rfl <;> rfl)
    rw [show (cs.toList.take 0 ++ (refV n gb R.blk.length cb gi R.ino.length ci sv).toArray.toList ++ cs.toList.drop (0 + (refV n gb R.blk.length cb gi R.ino.length ci sv).toArray.toList.length)).toArray = (refV n gb R.blk.length cb gi R.ino.length ci sv).toArray by
      rw [List.drop_of_length_le (by simp [refV, refCells, hcs])]; simp] at this
    exact this
  · refine ⟨hp.row _, h.blk.row_far (q := pr) (fun e => hF (e ▸ h.fb)) _, h.ino.row_far (q := pr) (fun e => hF (e ▸ h.fi)) _, h.stg.kept (fun k hk _ => setRow_at (q := pr) (fun e => hF (by rw [← e]; exact hk)) _) (fun k hk => .inr hk), h.ne, .inl rfl, .inr h.fb, .inr h.fi, fun k hk => ?_⟩
    have hsz : (w.setRow pr (refV n gb R.blk.length cb gi R.ino.length ci sv).toArray).heap.size = w.heap.size := by simp [World.setRow]
    rw [hsz]
    rcases hk with rfl | hk
    · exact hp.lt
    · exact h.lt k hk
theorem RefAt.over {w : World} {F : Nat → Prop} {q n : Nat} {R : RefM} (h : RefAt w F q n R) {pr : Nat} {cs : Array Value} (hp : Blk w pr 103 cs) (hcs : cs.size = 10) (hF : ¬ F pr) :
    ∃ x : Value, (LoadS 103 (.pointer (some ⟨q, 0, none⟩))).run Try.prog w = .ok x w ∧ ∃ cs', (StoreS 103 (.pointer (some ⟨pr, 0, none⟩)) x).run Try.prog w = .ok () (w.setRow pr cs') ∧ RefAt (w.setRow pr cs') (fun k => k = pr ∨ F k) pr n R := by
  obtain ⟨gb, cb, gi, ci, sv, h⟩ := h
  obtain ⟨h1, h2⟩ := h.over hp hcs hF
  exact ⟨_, h.load, _, h1, _, _, _, _, _, h2⟩
theorem RefAt.head (h : ∃ w F pr n R, RefAt w F pr n R) : True := trivial
theorem RefAt.blk {w : World} {F : Nat → Prop} {pr n : Nat} {R : RefM} (h : RefAt w F pr n R) : F pr ∧ ∃ cs : Array Value, Blk w pr 103 cs ∧ cs.size = 10 := by
  obtain ⟨gb, cb, gi, ci, sv, h⟩ := h
  exact ⟨h.fp, _, h.head, refV_size _ _ _ _ _ _ _ _⟩
/-- What is staged is taken away. -/
theorem RefAt.unstage {w : World} {F : Nat → Prop} {pr n : Nat} {R : RefM} (h : RefAt w F pr n R) : RefAt (w.setCell ⟨pr, 9, none⟩ (.slice none 0 0)) F pr n { R with stg := [] } := by
  obtain ⟨gb, cb, gi, ci, sv, h⟩ := h
  exact ⟨_, _, _, _, _, h.setS (Step.refl _ F) (fun _ h => h) (fun _ _ _ hb _ => hb) h.lt (IRow.nil _ _ _)⟩
theorem RefAt.cell9 {w : World} {F : Nat → Prop} {pr n : Nat} {R : RefM} (h : RefAt w F pr n R) : ∃ sv, w.cell? ⟨pr, 9, none⟩ = some sv ∧ w.frozen? ⟨pr, 9, none⟩ = false := by
  obtain ⟨gb, cb, gi, ci, sv, h⟩ := h
  exact ⟨sv, h.cells.2.2.2.2.2.2.2.2.2, h.head.frozen 9⟩
/-- A space, the space by definition (at pr), and the one that is safe (at qs, by the pointer in gq). -/
structure PlayW (w : Ground) (wi : World) (F FR FS : Nat → Prop) (p go gs pd ps pr qs gq n : Nat) (L : LogM) (D : DiskM) (R S : RefM) : Prop where
  run : ARun w wi F p go gs pd ps n L D
  ref : RefAt wi FR pr n R
  safe : RefAt wi FS qs n S
  ptr : Blk wi gq 62 #[.pointer (some ⟨qs, 0, none⟩)]
  fr : ∀ k, FR k → ¬ Both F p go gs k ∧ k ≠ ps ∧ k ≠ gq ∧ w.world.heap.size ≤ k
  fs : ∀ k, FS k → ¬ Both F p go gs k ∧ k ≠ ps ∧ k ≠ gq ∧ w.world.heap.size ≤ k ∧ ¬ FR k
  fq : ¬ Both F p go gs gq ∧ gq ≠ ps ∧ w.world.heap.size ≤ gq
section
variable {w : Ground} {wi wj : World} {F F' FR FR' FS FS' : Nat → Prop} {p go gs pd ps pr qs gq n : Nat} {L L' : LogM} {D D' : DiskM} {R R' S S' : RefM}
theorem far_both {k : Nat} (hn : ¬ Both F p go gs k) (hlt : k < wi.heap.size) (s : Step wi wj (Both F p go gs) (Both F' p go gs)) : ¬ Both F' p go gs k := fun h => by
  rcases s.next k h with h1 | h1
  · exact hn h1
  · omega
theorem PlayW.nextA (h : PlayW w wi F FR FS p go gs pd ps pr qs gq n L D R S) (k : ARun ⟨wi, Both F p go gs⟩ wj F' p go gs pd ps n L' D') : PlayW w wj F' FR FS p go gs pd ps pr qs gq n L' D' R S := by
  have s := k.log.run.kept
  exact ⟨h.run.back k, h.ref.step s (fun i hi => (h.fr i hi).1), h.safe.step s (fun i hi => (h.fs i hi).1), h.ptr.step s h.fq.1,
    fun i hi => ⟨far_both (h.fr i hi).1 (h.ref.lt i hi) s, (h.fr i hi).2⟩, fun i hi => ⟨far_both (h.fs i hi).1 (h.safe.lt i hi) s, (h.fs i hi).2⟩, far_both h.fq.1 h.ptr.lt s, h.fq.2⟩
theorem PlayW.free (h : PlayW w wi F FR FS p go gs pd ps pr qs gq n L D R S) (hb : Below wi.heap.size wi wj) : PlayW w wj F FR FS p go gs pd ps pr qs gq n L D R S :=
  ⟨h.run.free hb, h.ref.free hb, h.safe.free hb, h.ptr.below hb h.ptr.lt, h.fr, h.fs, h.fq⟩
theorem ARun.other (h : ARun w wi F p go gs pd ps n L D) {K K' : Nat → Prop} (s : Step wi wj K K') (hK : ∀ k, K k → ¬ Both F p go gs k) (hps : ¬ K ps) (hm : ∀ k, K k → w.may k ∨ w.world.heap.size ≤ k) : ARun w wj F p go gs pd ps n L D := by
  have s' : Step wi wj K K := s.fewer (fun k hk => by exact .inl hk) |> fun _ => ⟨s.os, s.tape, s.output, s.size, s.block, fun _ h => .inl h⟩
  exact ⟨⟨h.log.run.other s' hK hm, h.log.inv, h.log.armed, h.log.base, h.log.size, h.log.n64⟩, h.space.step s' hps, h.far⟩
theorem ARun.both_lt (h : ARun w wi F p go gs pd ps n L D) {k : Nat} (hk : Both F p go gs k) : k < wi.heap.size := h.log.run.wal.both_lt _ hk
theorem PlayW.nextR (h : PlayW w wi F FR FS p go gs pd ps pr qs gq n L D R S) (s : Step wi wj FR FR') (hr : RefAt wj FR' pr n R') : PlayW w wj F FR' FS p go gs pd ps pr qs gq n L D R' S := by
  have hw := h.run.log.run.kept.size
  refine ⟨h.run.other s (fun k hk => (h.fr k hk).1) (fun hk => (h.fr _ hk).2.1 rfl) (fun k hk => .inr (h.fr k hk).2.2.2), hr, h.safe.step s (fun i hi => (h.fs i hi).2.2.2.2), h.ptr.step s (fun hk => (h.fr _ hk).2.2.1 rfl), fun k hk => ?_, fun k hk => ?_, h.fq⟩
  · rcases s.next k hk with h1 | h1
    · exact h.fr k h1
    · refine ⟨fun hb => ?_, ?_, ?_, by omega⟩
      · have := h.run.both_lt hb; omega
      · have := h.run.space.lt; omega
      · have := h.ptr.lt; omega
  · obtain ⟨a, b, c, d, e⟩ := h.fs k hk
    refine ⟨a, b, c, d, fun hr' => ?_⟩
    rcases s.next k hr' with h1 | h1
    · exact e h1
    · have := h.safe.lt k hk; omega
/-- The safe one is another one, new. -/
theorem PlayW.setq (h : PlayW w wi F FR FS p go gs pd ps pr qs gq n L D R S) (he : Ext wi wj) {q : Nat} (hr : RefAt wj FS' q n S') (hn : ∀ k, FS' k → wi.heap.size ≤ k) : PlayW w (wj.setCell ⟨gq, 0, none⟩ (.pointer (some ⟨q, 0, none⟩))) F FR FS' p go gs pd ps pr q gq n L D R S' := by
  have h2 := h.free he
  have hq := h.ptr.lt
  have hw := h.run.log.run.kept.size
  have s : Step wj (wj.setCell ⟨gq, 0, none⟩ (.pointer (some ⟨q, 0, none⟩))) (fun k => k = gq) (fun k => k = gq) := (Step.refl wj (fun j => j = gq)).setCell (p := ⟨gq, 0, none⟩) (.inl rfl) _
  refine ⟨h2.run.other s (fun k hk => by subst hk; exact h.fq.1) (fun hk => h.fq.2.1 hk.symm) (fun k hk => by subst hk; exact .inr h.fq.2.2), h2.ref.step s (fun k hk e => (h.fr k hk).2.2.1 e), hr.step s (fun k hk e => by have := hn k hk; omega), (h2.ptr.set_ 0 _).cast_ rfl, h.fr, fun k hk => ?_, h.fq⟩
  have hk' := hn k hk
  refine ⟨fun hb => ?_, ?_, by omega, by omega, fun hr' => ?_⟩
  · have := h.run.both_lt hb; omega
  · have := h.run.space.lt; omega
  · have := h.ref.lt k hr'; omega
/-- The space by definition is written over with a copy of the safe one. -/
theorem PlayW.setr (h : PlayW w wi F FR FS p go gs pd ps pr qs gq n L D R S) (he : Ext wi wj) {q : Nat} {FC : Nat → Prop} (hr : RefAt wj FC q n S) (hn : ∀ k, FC k → wi.heap.size ≤ k) :
    ∃ x : Value, (LoadS 103 (.pointer (some ⟨q, 0, none⟩))).run Try.prog wj = .ok x wj ∧ ∃ cs', (StoreS 103 (.pointer (some ⟨pr, 0, none⟩)) x).run Try.prog wj = .ok () (wj.setRow pr cs') ∧ PlayW w (wj.setRow pr cs') F (fun k => k = pr ∨ FC k) FS p go gs pd ps pr qs gq n L D S S := by
  have h2 := h.free he
  obtain ⟨hfp, cs, hB, hcs⟩ := h2.ref.blk
  have hpl := h.ref.lt pr hfp
  have hw := h.run.log.run.kept.size
  obtain ⟨x, hx, cs', hst, hr'⟩ := hr.over hB hcs (fun hc => by have := hn _ hc; omega)
  refine ⟨x, hx, cs', hst, ?_⟩
  have s : Step wj (wj.setRow pr cs') (fun k => k = pr) (fun k => k = pr) := (Step.refl wj (fun j => j = pr)).setRow (g := pr) (.inl rfl) _
  obtain ⟨r1, r2, r3, r4⟩ := h.fr pr hfp
  refine ⟨h2.run.other s (fun k hk => by subst hk; exact r1) (fun hk => r2 hk.symm) (fun k hk => by subst hk; exact .inr r4), hr', h2.safe.step s (fun k hk e => by subst e; exact (h.fs _ hk).2.2.2.2 hfp), h2.ptr.step s (fun e => r3 e.symm), fun k hk => ?_, fun k hk => ?_, h.fq⟩
  · rcases hk with rfl | hk
    · exact ⟨r1, r2, r3, r4⟩
    · have hk' := hn k hk
      refine ⟨fun hb => ?_, ?_, ?_, by omega⟩
      · have := h.run.both_lt hb; omega
      · have := h.run.space.lt; omega
      · have := h.ptr.lt; omega
  · obtain ⟨a, b, c, d, e⟩ := h.fs k hk
    refine ⟨a, b, c, d, fun hh => ?_⟩
    rcases hh with rfl | hh
    · exact e hfp
    · have h1 := hn k hh
      have := h.safe.lt k hk
      omega
theorem SimS.small (h : Laid n L D) (s : SimS L R) : R.stg.length ≤ 200 := by
  have hc := h.inv.cost
  have hs := h.size
  have hm := h.most
  rw [s.len]
  unfold costN at hc
  rw [hs] at hc
  unfold logLen at hc
  omega
end
end Go.Proofs.Ytmhgahkainmbkaa
