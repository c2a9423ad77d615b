/- The walk of MachinePlays. The walk of MachinePlays. How much an argument holds, where it is of bulk at most 1048576. -/
import Derived.Test.YtibndaianhlcaaaDoorPart24
import Derived.Test.YtibndaianhlcaaaDoorRows
import Derived.WideShapes
namespace Go.Proofs.YtibndaianhlcaaaDoor
open Go.RowKit Go.Sort Go.Shelf
set_option linter.unusedVariables false
set_option linter.unusedSimpArgs false

theorem RemB.step {a b : World} {G F F' : Nat → Prop} {t : TypeId} {sz : Nat} {A : Option Addr} {n : Nat} {xs : List Value} {k : Nat} (h : RemB a G t sz A n xs k) (st : Step a b F F') (hd : ∀ k, G k → ¬ F k) : RemB b G t sz A n xs k := by
  rcases h with h | ⟨g, cur, h1, h2, h3, h4, h5⟩
  · exact .inl h
  · exact .inr ⟨g, cur, h1, h2.step st (hd _ h4), h3, h4, h5⟩
theorem WreckOk.step {a b : World} {G F F' : Nat → Prop} {o : OV} (h : WreckOk a G o) (st : Step a b F F') (hd : ∀ k, G k → ¬ F k) : WreckOk b G o :=
  ⟨h.files.step st hd, h.fl, fun e he => ⟨(h.data e he).1.step st hd, (h.data e he).2⟩, h.users.step st hd, h.units.step st hd, h.ul, fun u hu => ⟨⟨(h.lists u hu).1.1.step st hd, (h.lists u hu).1.2⟩, (h.lists u hu).2.1.step st hd, (h.lists u hu).2.2⟩, h.small⟩
structure Seen9 (W : World) (G : Nat → Prop) (v : Nat) (o : OV) (s : Mach) : Prop where
  var : Blk W v 38 (ovArr o)
  obs : ObsK W G o
  wr : WreckOk W G o
  e1 : o.es.map EV.ent = s.files
  e2 : o.users = s.users
  e3 : o.us.map SV.srv = s.units
theorem Seen9.step {a b : World} {G F F' : Nat → Prop} {v : Nat} {o : OV} {s : Mach} (h : Seen9 a G v o s) (st : Step a b F F') (hd : ∀ k, G k → ¬ F k) (hv : ¬ F v) : Seen9 b G v o s := ⟨h.var.step st hv, h.obs.step st hd, h.wr.step st hd, h.e1, h.e2, h.e3⟩
theorem Seen9.below {a b : World} {G : Nat → Prop} {v : Nat} {o : OV} {s : Mach} (h : Seen9 a G v o s) (hb : Below a.heap.size a b) : Seen9 b G v o s := h.step (step_below hb) (fun _ _ h => h) (fun h => h)
theorem Seen9.new {W W4 : World} {s : Mach} {A : Option Addr} {n c : Nat} {es : List EV} {A2 : Option Addr} {n2 c2 : Nat} {A3 : Option Addr} {n3 c3 : Nat} {us : List SV} (ho : ObsOut W W4 s A n c es A2 n2 c2 A3 n3 c3 us) (hg : GoodM s) (hs : SmallM s) :
    Seen9 (W4.alloc (.cells (ovArr ⟨A, n, c, es, A2, n2, c2, s.users, A3, n3, c3, us⟩) 38)) (fun k => W.heap.size ≤ k ∧ k < W4.heap.size) W4.heap.size ⟨A, n, c, es, A2, n2, c2, s.users, A3, n3, c3, us⟩ s :=
  ⟨Blk.new _ _ _, ho.kept.below (bel_new _ _), (ho.wreck hg hs).step (step_below (bel_new _ _)) (fun _ _ h => h), ho.ents, rfl, ho.srvs⟩
theorem doM_plan (s : Mach) (a : ActP) : (doM s a).1.plan.length ≤ s.plan.length := by
  have h0 : ∀ {c : Prop} [Decidable c] {x y : Mach × Int}, x.1.plan.length ≤ s.plan.length → y.1.plan.length ≤ s.plan.length → (if c then x else y).1.plan.length ≤ s.plan.length := fun {c} _ {x y} h1 h2 => by split; exact h1; exact h2
  unfold doM doStop doFile doUser doStart
  repeat' first
    | apply h0
    | exact Nat.le_refl _
    | (simp; done)
/-- The end of a round: the reference's step, compared. -/
structure Mid9 (w : World) (B : Nat) (W : World) (F : Nat → Prop) (g : Nat) (R : Nat → Prop) (r : Nat) (s t : Mach) (G : Nat → Prop) (v : Nat) (o : OV) : Prop where
  p : PRun w B W F g R r s t
  seen : Seen9 W G v o s
  gF : ∀ k, G k → ¬ F k
  gR : ∀ k, G k → ¬ R k
  gr : ¬ G r
  gl : ∀ k, G k → w.heap.size ≤ k ∧ k < W.heap.size
  vr : v ≠ r
theorem Mid9.below {w : World} {B : Nat} {W W' : World} {F : Nat → Prop} {g : Nat} {R : Nat → Prop} {r : Nat} {s t : Mach} {G : Nat → Prop} {v : Nat} {o : OV} (h : Mid9 w B W F g R r s t G v o) (hb : Below W.heap.size W W') : Mid9 w B W' F g R r s t G v o :=
  ⟨h.p.below hb, h.seen.below hb, h.gF, h.gR, h.gr, fun k hk => ⟨(h.gl k hk).1, Nat.lt_of_lt_of_le (h.gl k hk).2 hb.size⟩, h.vr⟩
theorem Mid9.refer {w : World} {B : Nat} {W W' : World} {F : Nat → Prop} {g : Nat} {R : Nat → Prop} {r : Nat} {s t : Mach} {G : Nat → Prop} {v : Nat} {o : OV} (h : Mid9 w B W F g R r s t G v o) {a : ActP} {e : Ending} (hp : RefPost W R r (doM t a) e W') :
    e = .returned (.int .i64 (doM t a).2) ∧ Mid9 w B W' F g (Fn R W W') r s (doM t a).1 G v o := by
  obtain ⟨h1, h2, h3⟩ := h.p.refer hp
  exact ⟨h1, h2, h.seen.step h3 (fun k hk e => h.gr (by rw [← show k = r from e]; exact hk)) h.vr, h.gF, fun k hk hR => by rcases hR with hR | hR; exact h.gR k hk hR; have := (h.gl k hk).2; omega, h.gr, fun k hk => ⟨(h.gl k hk).1, Nat.lt_of_lt_of_le (h.gl k hk).2 h3.size⟩, h.vr⟩
theorem Mid9.wrecked {w : World} {B : Nat} {W W' : World} {F : Nat → Prop} {g : Nat} {R : Nat → Prop} {r : Nat} {s t : Mach} {G : Nat → Prop} {v : Nat} {o : OV} (h : Mid9 w B W F g R r s t G v o) (hs : Sp W W' G TAll) : PRun w B W' F g R r s t :=
  h.p.aside hs.step (fun k hF hG => h.gF k hG hF) (fun k hR hG => h.gR k hG hR) h.gr (fun k hG => (h.gl k hG).1)
/-- A step copied into a variable, ready to be done. -/
structure Mid6 (w : World) (B : Nat) (W : World) (F : Nat → Prop) (g : Nat) (R : Nat → Prop) (r : Nat) (s t : Mach) (W0 : World) (G : Nat → Prop) (v : Nat) (a a' : AV) : Prop where
  p : PRun w B W F g R r s t
  cv : CopyV W0 W G v a a'
  gF : ∀ k, G k → ¬ F k
  gR : ∀ k, G k → ¬ R k
  gr : ¬ G r
  gl : ∀ k, G k → w.heap.size ≤ k ∧ k < W.heap.size
theorem Mid6.did {w : World} {B : Nat} {W W' : World} {F : Nat → Prop} {g : Nat} {R : Nat → Prop} {r : Nat} {s t : Mach} {W0 : World} {G : Nat → Prop} {v : Nat} {a a' : AV} (h : Mid6 w B W F g R r s t W0 G v a a') (hv : ¬ F v) {b : ActP} (hb : SmallP b) {e : Ending} (hp : MachPost W F g (doM s b) e W') :
    e = .returned (.int .i64 (doM s b).2) ∧ Mid6 w B W' (Fn F W W') g R r (doM s b).1 t W0 G v a a' := by
  obtain ⟨h1, h2, h3⟩ := h.p.machine hb hp
  exact ⟨h1, h2, h.cv.step h3 h.gF hv, fun k hk hF => by rcases hF with hF | hF; exact h.gF k hk hF; have := (h.gl k hk).2; omega, h.gR, h.gr, fun k hk => ⟨(h.gl k hk).1, Nat.lt_of_lt_of_le (h.gl k hk).2 h3.size⟩⟩
theorem Mid6.spoiled {w : World} {B : Nat} {W W' : World} {F : Nat → Prop} {g : Nat} {R : Nat → Prop} {r : Nat} {s t : Mach} {W0 : World} {G : Nat → Prop} {v : Nat} {a a' : AV} (h : Mid6 w B W F g R r s t W0 G v a a') (hs : Sp W W' G TSp) : PRun w B W' F g R r s t :=
  h.p.aside hs.step (fun k hF hG => h.gF k hG hF) (fun k hR hG => h.gR k hG hR) h.gr (fun k hG => (h.gl k hG).1)
/-- What the copy of a step is good for. -/
theorem copy_play {w : World} {B : Nat} {W : World} {F : Nat → Prop} {g : Nat} {R : Nat → Prop} {r : Nat} {s t : Mach} (h : PRun w B W F g R r s t) {a : AV} (ha : ActAt w w.heap.size a) (hs : SmallA a) :
    Calls Tryd.prog 11 #[.agg (avArr a)] W fun e w6 => ∃ a', e = .returned (.agg (avArr a')) ∧ Mid6 w B (w6.alloc (.cells (avArr a') 48)) F g R r s t W (fun k => W.heap.size ≤ k ∧ k < w6.heap.size) w6.heap.size a a' ∧ ¬ F w6.heap.size ∧
      Calls Tryd.prog 10 #[.pointer (some ⟨g, 0, none⟩), .agg (avArr a')] (w6.alloc (.cells (avArr a') 48)) (MachPost (w6.alloc (.cells (avArr a') 48)) F g (doM s a.act)) := by
  refine (copied20_any (ha.below h.run.bel) h.run.bel.size hs.lens).mono ?_
  rintro e w6 ⟨a', rfl, he, ho, hl, hb⟩
  have hb6 : Below W.heap.size W (w6.alloc (.cells (avArr a') 48)) := hb.alloc hb.size _
  have hz := h.run.bel.size
  have hbs := hb.size
  have hrl := h.ref.lt
  have h6 := h.below hb6
  have hat : ActAt (w6.alloc (.cells (avArr a') 48)) w6.heap.size a' := ho.at_.below (bel_new w6 _)
  refine ⟨a', rfl, ⟨h6, CopyV.new he ho hl, fun k hk hF => by have := h.run.lt k hF; omega, fun k hk hR => by have := h.rl k hR; omega, fun hk => by omega, fun k hk => ⟨by omega, by simp; omega⟩⟩, fun hF => by have := h.run.lt _ hF; omega, ?_⟩
  have := h6.run.do_ hat (by simp) (hs.same he hl) (ho.apart (fun k hk hF => by have := h.run.lt k hF; omega))
  rwa [he] at this
theorem copy_ref {w : World} {B : Nat} {W : World} {F : Nat → Prop} {g : Nat} {R : Nat → Prop} {r : Nat} {s t : Mach} {G : Nat → Prop} {v : Nat} {o : OV} (h : Mid9 w B W F g R r s t G v o) (hp : t.plan.length ≤ 1000000000) {a : AV} (ha : ActAt w w.heap.size a) (hs : SmallA a) :
    Calls Tryd.prog 11 #[.agg (avArr a)] W fun e w6 => ∃ a', e = .returned (.agg (avArr a')) ∧ Mid9 w B w6 F g R r s t G v o ∧ Calls Tryd.prog 16 #[.pointer (some ⟨r, 0, none⟩), .agg (avArr a')] w6 (RefPost w6 R r (doM t a.act)) := by
  refine (copied20_any (ha.below h.p.run.bel) h.p.run.bel.size hs.lens).mono ?_
  rintro e w6 ⟨a', rfl, he, ho, hl, hb⟩
  have hrl := h.p.ref.lt
  refine ⟨a', rfl, h.below hb, ?_⟩
  have := (h.p.below hb).doRef hp ho.at_ (Nat.le_refl _) (hs.same he hl) ⟨fun x hx => by have h1 : W.heap.size ≤ x.block := (row_in ho.req x hx).1; omega, fun x hx => by have h1 : W.heap.size ≤ x.block := (row_in ho.aft x hx).1; omega⟩
  rwa [he] at this
theorem Mid9.same {w : World} {B : Nat} {W : World} {F : Nat → Prop} {g : Nat} {R : Nat → Prop} {r : Nat} {s : Mach} {G : Nat → Prop} {v : Nat} {o : OV} (h : Mid9 w B W F g R r s s G v o) : ∃ o2 : OV, (LoadS 38 (.pointer (some ⟨r, 0, none⟩))).run Tryd.prog W = .ok (.agg (ovArr o2)) W ∧ (LoadS 38 (.pointer (some ⟨v, 0, none⟩))).run Tryd.prog W = .ok (.agg (ovArr o)) W ∧
    Calls Tryd.prog 12 #[.agg (ovArr o), .agg (ovArr o2)] W fun e w' => e = .returned (.bool true) ∧ Below W.heap.size W w' := by
  obtain ⟨o2, h1, h2, e1, e2, e3⟩ := h.p.told
  have hs := same20_any h.seen.obs.at_ h2 (Nat.le_refl _)
  rw [sameO_of (h.seen.e1.trans e1.symm) (h.seen.e2.trans e2.symm) (h.seen.e3.trans e3.symm)] at hs
  exact ⟨o2, h1, load_obs h.seen.var rfl, hs⟩
theorem PRun.turned {w : World} {B : Nat} {W W' : World} {F : Nat → Prop} {g : Nat} {R : Nat → Prop} {r : Nat} {s t s' : Mach} (h : PRun w B W F g R r s t) (hm : MRun w B W' (Fn F W W') g s') (st : Step W W' F (Fn F W W')) : PRun w B W' (Fn F W W') g R r s' t := by
  obtain ⟨o, pA, pn, pc, hv⟩ := h.ref
  have hs := st.size
  refine ⟨hm, ⟨o, pA, pn, pc, hv.step st h.dis h.nr⟩, h.good, fun k hk hF => ?_, fun hF => ?_, fun k hk => Nat.lt_of_lt_of_le (h.rl k hk) hs, h.r0⟩
  · rcases hF with hF | hF
    · exact h.dis k hk hF
    · have := h.rl k hk; omega
  · rcases hF with hF | hF
    · exact h.nr hF
    · have := hv.blk.lt; omega
def refCells (A : Option Addr) (n c : Nat) : Array Value := #[.slice none 0 0, .slice none 0 0, .slice none 0 0, .slice A n c]
/-- Both machines, new. -/
theorem plays_start {w w2 w3 : World} {B g : Nat} (h : MRun w B w2 (fun k => k = g) g newM) (hgw : g < w2.heap.size) {A3 : Option Addr} {n c3 : Nat} {p : List Bool} (o3 : w3.ownsRow w2.heap.size 4 1 (.slice A3 n c3) n (p.map bl)) (b3 : Below w2.heap.size w2 w3) :
    PRun w B (w3.alloc (.cells (refCells A3 n c3) 56)) (fun k => k = g) g (fun k => w2.heap.size ≤ k ∧ k < w3.heap.size) w3.heap.size newM ⟨[], [], [], p⟩ := by
  have hz3 := b3.size
  have hz := h.bel.size
  have hb4 : Below w2.heap.size w2 (w3.alloc (.cells (refCells A3 n c3) 56)) := b3.alloc hz3 _
  refine ⟨h.below hb4, ⟨⟨none, 0, 0, [], none, 0, 0, [], none, 0, 0, []⟩, A3, n, c3, ⟨Blk.new _ _ _, (fun hk => by omega), ⟨⟨⟨slc_none _ _ _, rfl, (fun e he => by cases he)⟩, slc_none _ _ _, ⟨slc_none _ _ _, rfl, (fun e he => by cases he), (fun e he => by cases he)⟩⟩, (fun a ha => by cases ha), (fun a ha => by cases ha), (fun a ha => by cases ha), (fun e he => by cases he), (fun e he => by cases he), (fun e he => by cases he)⟩, rfl, rfl, rfl, ?_, fun a ha => own_in o3 a ha⟩⟩, ⟨List.Pairwise.nil, List.Pairwise.nil, (fun u h => by cases h), List.Pairwise.nil, Nat.zero_le _, Nat.zero_le _, Nat.zero_le _⟩, fun k hk e => by have e : k = g := e; omega, fun e => by have e : w3.heap.size = g := e; omega, fun k hk => by simp; omega, by omega⟩
  exact ((own_slc_of o3).below (bel_new w3 _)).more (by simp)
/-- The law's own plan: a row of booleans that it turns. -/
def OwnB (W : World) (lo hi : Nat) (A : Option Addr) (n : Nat) : Prop := n = 0 ∨ ∃ g cur, A = some ⟨g, 0, none⟩ ∧ Blk W g 4 cur ∧ n ≤ cur.size ∧ (lo ≤ g ∧ g < hi) ∧ ∀ j, j < n → ∃ b, cur[j]? = some (.bool b)
theorem OwnB.of_own {W : World} {base : Nat} {A : Option Addr} {n c : Nat} {p : List Bool} (h : W.ownsRow base 4 1 (.slice A n c) n (p.map bl)) : OwnB W base W.heap.size A n := by
  have hl := h.1
  rw [List.length_map] at hl
  rcases h.2 with ⟨_, h0⟩ | ⟨g, cap, cur, e, hg, h2, h3, h4, h5, h6⟩
  · exact .inl h0
  · injection e with e
    refine .inr ⟨g, cur, e, h2, by omega, ⟨hg, lt_of_heap h2⟩, fun j hj => ⟨p[j]'(by omega), ?_⟩⟩
    rw [← Array.getElem?_toList]
    have h7 : (cur.toList.take (n * 1))[j]? = cur.toList[j]? := by rw [List.getElem?_take, if_pos (by omega)]
    rw [← h7, h6, List.getElem?_map, List.getElem?_eq_getElem (by omega)]
    rfl
theorem OwnB.step {W W' : World} {lo hi : Nat} {A : Option Addr} {n : Nat} {F F' : Nat → Prop} (h : OwnB W lo hi A n) (st : Step W W' F F') (hd : ∀ k, lo ≤ k → k < hi → ¬ F k) : OwnB W' lo hi A n := by
  rcases h with h | ⟨g, cur, h1, h2, h3, h4, h5⟩
  · exact .inl h
  · exact .inr ⟨g, cur, h1, h2.step st (hd g h4.1 h4.2), h3, h4, h5⟩
theorem OwnB.at_ {W : World} {lo hi : Nat} {A : Option Addr} {n : Nat} (h : OwnB W lo hi A n) {k : Nat} (hk : k < n) : ∃ g b, A = some ⟨g, 0, none⟩ ∧ W.cell? ⟨g, k, none⟩ = some (.bool b) ∧ W.frozen? ⟨g, k, none⟩ = false ∧ (lo ≤ g ∧ g < hi) ∧ ∀ b', OwnB (W.setCell ⟨g, k, none⟩ (.bool b')) lo hi A n := by
  rcases h with h | ⟨g, cur, h1, h2, h3, h4, h5⟩
  · omega
  · obtain ⟨b, hb⟩ := h5 k hk
    refine ⟨g, b, h1, by rw [h2.cell]; exact hb, h2.frozen k, h4, fun b' => .inr ⟨g, _, h1, h2.set_ k _, by simpa using h3, h4, fun j hj => ?_⟩⟩
    by_cases hjk : k = j
    · subst hjk
      exact ⟨b', by rw [Array.getElem?_setIfInBounds_self_of_lt (by omega)]⟩
    · obtain ⟨b2, hb2⟩ := h5 j hj
      exact ⟨b2, by rw [Array.getElem?_setIfInBounds_ne hjk]; exact hb2⟩
/-- The machine's plan is laid, and the law keeps a row of its own. -/
structure Own7 (w : World) (B : Nat) (W : World) (F : Nat → Prop) (g : Nat) (R : Nat → Prop) (r : Nat) (s t : Mach) (lo hi : Nat) (A : Option Addr) (n : Nat) : Prop where
  p : PRun w B W F g R r s t
  o : OwnB W lo hi A n
  gF : ∀ k, lo ≤ k → k < hi → ¬ F k
  gR : ∀ k, lo ≤ k → k < hi → ¬ R k
  gr : lo ≤ r → r < hi → False
  gl : w.heap.size ≤ lo
theorem Own7.new {w W4 w6 w7 : World} {B : Nat} {F : Nat → Prop} {g : Nat} {R : Nat → Prop} {r : Nat} {s t s' : Mach} {A : Option Addr} {n : Nat} (h : PRun w B W4 F g R r s t) (b6 : Below W4.heap.size W4 w6) (o : OwnB w6 W4.heap.size w6.heap.size A n) (hm : MRun w B w7 (Fn F w6 w7) g s') (st : Step w6 w7 F (Fn F w6 w7)) : Own7 w B w7 (Fn F w6 w7) g R r s' t W4.heap.size w6.heap.size A n := by
  have ho := o.step st (fun k h1 h2 hF => by have := h.run.lt k hF; omega)
  have hr := h.ref.lt
  refine ⟨(h.below b6).turned hm st, ho, fun k h1 h2 hF => ?_, fun k h1 h2 hR => by have := h.rl k hR; omega, fun h1 h2 => by omega, h.run.bel.size⟩
  rcases hF with hF | hF
  · have := h.run.lt k hF; omega
  · omega
theorem Own7.at_ {w W : World} {B : Nat} {F : Nat → Prop} {g : Nat} {R : Nat → Prop} {r : Nat} {s t : Mach} {lo hi : Nat} {A : Option Addr} {n : Nat} (h : Own7 w B W F g R r s t lo hi A n) {k : Nat} (hk : k < n) : ∃ x b, A = some ⟨x, 0, none⟩ ∧ W.cell? ⟨x, k, none⟩ = some (.bool b) ∧ W.frozen? ⟨x, k, none⟩ = false ∧ ∀ b', Own7 w B (W.setCell ⟨x, k, none⟩ (.bool b')) F g R r s t lo hi A n := by
  obtain ⟨x, b, h1, h2, h3, h4, h5⟩ := h.o.at_ hk
  refine ⟨x, b, h1, h2, h3, fun b' => ⟨?_, h5 b', h.gF, h.gR, h.gr, h.gl⟩⟩
  have st : Step W (W.setCell ⟨x, k, none⟩ (.bool b')) (fun j => lo ≤ j ∧ j < hi) (fun j => lo ≤ j ∧ j < hi) := (Step.refl W _).setCell (p := ⟨x, k, none⟩) (.inl h4) _
  have hl := h.gl
  exact h.p.aside st (fun k hF hG => h.gF k hG.1 hG.2 hF) (fun k hR hG => h.gR k hG.1 hG.2 hR) (fun hG => h.gr hG.1 hG.2) (fun k hG => by omega)
theorem PRun.seen9 {w W W4 : World} {B : Nat} {F : Nat → Prop} {g : Nat} {R : Nat → Prop} {r : Nat} {s t : Mach} (h : PRun w B W F g R r s t) {A : Option Addr} {n c : Nat} {es : List EV} {A2 : Option Addr} {n2 c2 : Nat} {A3 : Option Addr} {n3 c3 : Nat} {us : List SV} (ho : ObsOut W W4 s A n c es A2 n2 c2 A3 n3 c3 us) :
    Mid9 w B (W4.alloc (.cells (ovArr ⟨A, n, c, es, A2, n2, c2, s.users, A3, n3, c3, us⟩) 38)) F g R r s t (fun k => W.heap.size ≤ k ∧ k < W4.heap.size) W4.heap.size ⟨A, n, c, es, A2, n2, c2, s.users, A3, n3, c3, us⟩ := by
  have hz := ho.bel.size
  have hw := h.run.bel.size
  have hr := h.ref.lt
  exact ⟨(h.below ho.bel).below (bel_new _ _), Seen9.new ho h.run.good h.run.small, fun k hk hF => by have := h.run.lt k hF; omega, fun k hk hR => by have := h.rl k hR; omega, fun hk => by omega, fun k hk => ⟨by omega, by simp; omega⟩, by omega⟩
theorem PRun.tells {w W : World} {B : Nat} {F : Nat → Prop} {g : Nat} {R : Nat → Prop} {r : Nat} {s t : Mach} (h : PRun w B W F g R r s t) : ∃ o : OV, o.es.map EV.ent = t.files ∧ o.users = t.users ∧ o.us.map SV.srv = t.units ∧ ∀ W', Below W.heap.size W W' → (LoadS 38 (.pointer (some ⟨r, 0, none⟩))).run Tryd.prog W' = .ok (.agg (ovArr o)) W' ∧ ObsAt W' W'.heap.size o := by
  obtain ⟨o, pA, pn, pc, hv⟩ := h.ref
  refine ⟨o, hv.ents, hv.users, hv.srvs, fun W' hb => ?_⟩
  have hv' := hv.step (step_below hb) (fun _ _ h => h) (fun h => h)
  exact ⟨LoadS.of_blk (P := Tryd.prog) (n := 3) (o := 0) hv'.blk Tryd.underlying38 rfl (by kernel_rfl) (by show 0 + 3 ≤ 4; omega), hv'.obs.at_⟩
end Go.Proofs.YtibndaianhlcaaaDoor
namespace Go.Proofs.YtibndaianhlcaaaDoor
open Go.RowKit Go.Sort Go.Shelf
set_option linter.unusedVariables false
set_option linter.unusedSimpArgs false

section
attribute [local go_sem ↓] load_act_mark load_obs_mark
set_option maxRecDepth 100000 in
set_option maxHeartbeats 16000000 in
theorem plays20_any {w : World} {A : Option Addr} {n c : Nat} {p : List Bool} (hp : Slc w w.heap.size 1 A n c (p.map bl)) (hn : n ≤ 1000000000) {A' : Option Addr} {n' c' : Nat} {acts : List AV} (hl : ActsAt w w.heap.size A' n' c' acts) (hs : ∀ a ∈ acts, SmallA a) (hn' : n' ≤ 1000000000) {Az : Option Addr} {nz cz : Nat} {zs : List Int} (hz : Slc w w.heap.size 1 Az nz cz (zs.map (Value.int .i64))) (hnz : nz ≤ 1000000000) :
    Calls Tryd.prog 5 #[.slice A n c, .slice A' n' c', .slice Az nz cz] w fun e w' => e = .returned (.bool true) ∧ Below w.heap.size w w' := by
  have hsh := shown20_any w
  have hpl0 : p.length ≤ 1000000000 := by have := hp.len; simp at this; omega
  have HP := Lib.hid hp
  have HL := Lib.hid hl
  have HS := Lib.hid hs
  have HZ := Lib.hid hz
  have HPL := Lib.hid hpl0
  have HNN := Lib.hid hn
  clear hp hl hs hz hpl0
  go_enter Tryd.func5, Tryd.ntmps5
  go_wp2_with (first
    | (go_at_call 6; refine hsh.mono ?_; clear hsh; rintro e w1 ⟨rfl, hb1⟩; have hnew := new_any w1; have HB1 := Lib.hid hb1; clear hb1)
    | (go_at_call 7; refine hnew.mono ?_; clear hnew; rintro e w2 ⟨rfl, hm, hb⟩; have hR := MRun.start HB1.out hm hb; have hgl : w1.heap.size < w2.heap.size := hR.lt _ rfl; obtain ⟨A3, c3, w3, r3, o3, b3, -, -⟩ := put_one rowT_bool (w := w2) (HP.out.below hR.bel) hR.bel.size (bls_one p) hn (bel_new w2 (.cells #[] 4)) (heap_alloc_new w2 _) (Nat.le_refl _); have HR3 := Lib.hid r3; have hps := plays_start hR hgl o3 b3; obtain ⟨W4, hW4⟩ : ∃ W4, W4 = w3.alloc (.cells (refCells A3 n c3) 56) := ⟨_, rfl⟩; rw [← hW4] at hps; obtain ⟨A6, c6, w6, r6, o6, b6, -, -⟩ := put_one rowT_bool (w := W4) (HP.out.below hps.run.bel) hps.run.bel.size (bls_one p) hn (bel_new W4 (.cells #[] 4)) (heap_alloc_new W4 _) (Nat.le_refl _); have hp6 := hps.below b6; have hpl := hp6.run.plan_ (own_slc_of o6) (Nat.le_refl _) hn; have HP4 := Lib.hid hps; have HB6 := Lib.hid b6; have HO6 := Lib.hid (OwnB.of_own o6); have hz4 : W4.heap.size = w3.heap.size + 1 := (by rw [hW4]; simp); rw [hz4, hW4] at r6; unfold refCells at r6; have HR6 := Lib.hid r6; clear hm hb hR hgl r3 o3 b3 hps r6 o6 b6 hp6 hz4 hW4)
    | (at_builtin; first
      | (refine wpList_append_run rfl _ _ _ rfl rfl rfl HR3.out ?_; clear HR3)
      | (refine wpList_append_run rfl _ _ _ rfl rfl rfl HR6.out ?_; clear HR6))
    | (go_at_call 8; refine hpl.mono ?_; clear hpl; rintro e w7 ⟨rfl, G, h7, rfl, st7⟩; have HO7 := Lib.hid (Own7.new HP4.out HB6.out HO6.out h7 st7); clear h7 st7 HP4 HB6 HO6))
  generalize Fn (fun k => k = w1.heap.size) w6 w7 = F0 at *
  generalize w2.heap.size = B at *
  generalize w1.heap.size = g at *
  generalize w6.heap.size = hi at *
  generalize W4.heap.size = lo at *
  go_loopw [11] (fun i wr => ∃ k : Nat, k ≤ n ∧ i = .int .i64 (k : Int) ∧ Aside (Own7 w B wr F0 g (fun k => B ≤ k ∧ k < w3.heap.size) w3.heap.size ⟨[], [], [], p⟩ ⟨[], [], [], p⟩ lo hi A6 n)) (fun i _ => n - (intOf i).toNat)
  case atStart => exact ⟨0, Nat.zero_le _, rfl, HO7.out⟩
  case round =>
    obtain ⟨k, hk, rfl, ho⟩ := hrel
    by_cases hlt : k < n
    · obtain ⟨x, b, rfl, q1, q2, hnx⟩ := ho.out.at_ hlt
      have HN := Lib.hid (hnx (!b))
      clear hnx ho
      go_wp2_with (fail)
      exact ⟨⟨k + 1, by omega, by go_num, HN.out⟩, by simp [intOf]; omega⟩
    · obtain rfl : k = n := by omega
      go_wp2_with (fail)
      have HPR := Lib.hid ho.out.p
      clear ho HO7
      generalize (fun k => B ≤ k ∧ k < w3.heap.size) = R0 at *
      generalize w3.heap.size = r at *
      go_loopw [12] (fun i wr => ∃ k : Nat, k ≤ n' ∧ i = .int .i64 (k : Int) ∧ Aside (∃ F R s, PRun w B wr F g R r s s ∧ s.plan.length ≤ 1000000000)) (fun i _ => n' - (intOf i).toNat)
      case atStart => exact ⟨0, Nat.zero_le _, rfl, _, _, _, HPR.out, HPL.out⟩
      case round =>
        obtain ⟨k, hk, rfl, hrr⟩ := hrel
        obtain ⟨F, R, s, hR, hpn⟩ := hrr.out
        have HRR := Lib.hid hR
        have HPS := Lib.hid hpn
        clear hR hrr hpn HPR
        by_cases hlt : k < n'
        · obtain ⟨b, off, rfl, hkl, -, -⟩ := HL.out.at_ hlt
          have HAK := Lib.hid (HL.out.acts _ (List.getElem_mem hkl))
          have HSK := Lib.hid (HS.out _ (List.getElem_mem hkl))
          have HLD : Hid (∀ W, Below w.heap.size w W → (LoadS 48 (.pointer (some ⟨b, off + k * 9, none⟩))).run Tryd.prog W = .ok (.agg (avArr acts[k])) W) := fun W hb => by obtain ⟨b', off', e9, hkl', h9, -⟩ := (HL.out.below hb).at_ hlt; cases e9; exact h9
          generalize acts[k] = a at *
          have HSP := Lib.hid (HAK.out.small HSK.out)
          by_cases hlz : k < nz
          · obtain ⟨bz, offz, rfl, _, hz1⟩ := (HZ.out.below HRR.out.run.bel).at_ (by omega)
            have hzl : zs.length = nz := by have := HZ.out.len; simpa using this
            have hz2 := hz1 k (.int .i64 (zs[k]'(by omega))) (by rw [List.getElem?_map, List.getElem?_eq_getElem (by omega)]; rfl)
            have hlz' : (k : Int) < (nz : Int) := by omega
            clear hz1
            generalize zs[k]'(by omega) = z at *
            have hrst := reset_any HRR.out.run.mach
            have hld := HLD.out _ HRR.out.run.bel
            have hcp := copy_play HRR.out HAK.out HSK.out
            go_wp2_with (fail)
            · go_wp2_with (first
              | (go_at_call 14; refine hrst.mono ?_; clear hrst hld hcp; rintro e w5 ⟨rfl, hm5, hst5⟩; obtain ⟨u0, u1, u2, q0, q1, q2, fz, h5⟩ := (HRR.out.reset hm5 hst5).clear; have f0 := fz 0; have f1 := fz 1; have f2 := fz 2; have hld := HLD.out _ h5.run.bel; have hcp := copy_play h5 HAK.out HSK.out; have H5 := Lib.hid h5; clear hm5 hst5 h5 fz)
              | (go_at_call 11; refine hcp.mono ?_; clear hcp hld; rintro e w6 ⟨a', rfl, h6, hv6, hdo⟩; have hlv := load_act h6.cv.var rfl; unfold avArr at hlv hdo; unfold avArr; have H6 := Lib.hid h6; have HV6 := Lib.hid hv6; clear h6 hv6)
              | (go_at_call 10; refine hdo.mono ?_; clear hdo hlv; intro e w7 hq; obtain ⟨rfl, h7⟩ := H6.out.did HV6.out HSP.out hq; have hlv := load_act h7.cv.var rfl; have hsp := spoil20_any h7.cv.ok; unfold avArr at hlv hsp; have H7 := Lib.hid h7; clear hq h7)
              | (go_at_call 15; refine hsp.mono ?_; clear hsp hlv; rintro e w8 ⟨rfl, hs8⟩; have h8 := H7.out.spoiled hs8; have hse := h8.run.seen; have H8 := Lib.hid h8; clear hs8 h8)
              | (go_at_call 9; refine hse.mono ?_; clear hse; rintro e w9 ⟨A, n, c, es, A2, n2, c2, A3, n3, c3, us, rfl, ho⟩; have h9 := (H8.out.seen9 ho).below (Below.refl _ _).drew; have hld2 := HLD.out _ h9.p.run.bel; have hcp2 := copy_ref h9 HPS.out HAK.out HSK.out; unfold ovArr at hld2 hcp2; have H9 := Lib.hid h9; clear ho h9))
              go_region_law (first
              | (go_simp; go_at_call 11; refine hcp2.mono ?_; clear hcp2 hld2; rintro e w10 ⟨a2, rfl, h10, hdr⟩; have H10 := Lib.hid h10; clear h10)
              | (go_simp; go_at_call 16; refine hdr.mono ?_; clear hdr; intro e w11 hq; obtain ⟨rfl, h11⟩ := H10.out.refer hq; obtain ⟨o2, hl1, hl2, hsm⟩ := h11.same; unfold ovArr at hl1 hl2 hsm; have H11 := Lib.hid h11; clear hq h11)
              | (go_simp; go_at_call 12; refine hsm.mono ?_; clear hsm hl1 hl2; rintro e w12 ⟨rfl, hb12⟩; have h12 := H11.out.below hb12; have hlv := load_obs h12.seen.var rfl; have hwr := wreck20_any h12.seen.wr; unfold ovArr at hlv hwr; have H12 := Lib.hid h12; clear h12 hb12))
              all_goals go_wp2_with (first
              | (go_at_call 17; refine hwr.mono ?_; clear hwr hlv; rintro e w13 ⟨rfl, hs13⟩; have H13 := Lib.hid (H12.out.wrecked hs13); clear hs13))
              all_goals exact ⟨⟨k + 1, by omega, by go_num, _, _, _, H13.out, Nat.le_trans (doM_plan _ _) HPS.out⟩, by simp [intOf]; omega⟩
            · go_wp2_with (first
              | (go_at_call 11; refine hcp.mono ?_; clear hcp hld; rintro e w6 ⟨a', rfl, h6, hv6, hdo⟩; have hlv := load_act h6.cv.var rfl; unfold avArr at hlv hdo; unfold avArr; have H6 := Lib.hid h6; have HV6 := Lib.hid hv6; clear h6 hv6)
              | (go_at_call 10; refine hdo.mono ?_; clear hdo hlv; intro e w7 hq; obtain ⟨rfl, h7⟩ := H6.out.did HV6.out HSP.out hq; have hlv := load_act h7.cv.var rfl; have hsp := spoil20_any h7.cv.ok; unfold avArr at hlv hsp; have H7 := Lib.hid h7; clear hq h7)
              | (go_at_call 15; refine hsp.mono ?_; clear hsp hlv; rintro e w8 ⟨rfl, hs8⟩; have h8 := H7.out.spoiled hs8; have hse := h8.run.seen; have H8 := Lib.hid h8; clear hs8 h8)
              | (go_at_call 9; refine hse.mono ?_; clear hse; rintro e w9 ⟨A, n, c, es, A2, n2, c2, A3, n3, c3, us, rfl, ho⟩; have h9 := (H8.out.seen9 ho).below (Below.refl _ _).drew; have hld2 := HLD.out _ h9.p.run.bel; have hcp2 := copy_ref h9 HPS.out HAK.out HSK.out; unfold ovArr at hld2 hcp2; have H9 := Lib.hid h9; clear ho h9))
              go_region_law (first
              | (go_simp; go_at_call 11; refine hcp2.mono ?_; clear hcp2 hld2; rintro e w10 ⟨a2, rfl, h10, hdr⟩; have H10 := Lib.hid h10; clear h10)
              | (go_simp; go_at_call 16; refine hdr.mono ?_; clear hdr; intro e w11 hq; obtain ⟨rfl, h11⟩ := H10.out.refer hq; obtain ⟨o2, hl1, hl2, hsm⟩ := h11.same; unfold ovArr at hl1 hl2 hsm; have H11 := Lib.hid h11; clear hq h11)
              | (go_simp; go_at_call 12; refine hsm.mono ?_; clear hsm hl1 hl2; rintro e w12 ⟨rfl, hb12⟩; have h12 := H11.out.below hb12; have hlv := load_obs h12.seen.var rfl; have hwr := wreck20_any h12.seen.wr; unfold ovArr at hlv hwr; have H12 := Lib.hid h12; clear h12 hb12))
              all_goals go_wp2_with (first
              | (go_at_call 17; refine hwr.mono ?_; clear hwr hlv; rintro e w13 ⟨rfl, hs13⟩; have H13 := Lib.hid (H12.out.wrecked hs13); clear hs13))
              all_goals exact ⟨⟨k + 1, by omega, by go_num, _, _, _, H13.out, Nat.le_trans (doM_plan _ _) HPS.out⟩, by simp [intOf]; omega⟩
          · have hlz' : ¬ (k : Int) < (nz : Int) := by omega
            have hld := HLD.out _ HRR.out.run.bel
            have hcp := copy_play HRR.out HAK.out HSK.out
            go_wp2_with (first
            | (go_at_call 11; refine hcp.mono ?_; clear hcp hld; rintro e w6 ⟨a', rfl, h6, hv6, hdo⟩; have hlv := load_act h6.cv.var rfl; unfold avArr at hlv hdo; unfold avArr; have H6 := Lib.hid h6; have HV6 := Lib.hid hv6; clear h6 hv6)
            | (go_at_call 10; refine hdo.mono ?_; clear hdo hlv; intro e w7 hq; obtain ⟨rfl, h7⟩ := H6.out.did HV6.out HSP.out hq; have hlv := load_act h7.cv.var rfl; have hsp := spoil20_any h7.cv.ok; unfold avArr at hlv hsp; have H7 := Lib.hid h7; clear hq h7)
            | (go_at_call 15; refine hsp.mono ?_; clear hsp hlv; rintro e w8 ⟨rfl, hs8⟩; have h8 := H7.out.spoiled hs8; have hse := h8.run.seen; have H8 := Lib.hid h8; clear hs8 h8)
            | (go_at_call 9; refine hse.mono ?_; clear hse; rintro e w9 ⟨A, n, c, es, A2, n2, c2, A3, n3, c3, us, rfl, ho⟩; have h9 := (H8.out.seen9 ho).below (Below.refl _ _).drew; have hld2 := HLD.out _ h9.p.run.bel; have hcp2 := copy_ref h9 HPS.out HAK.out HSK.out; unfold ovArr at hld2 hcp2; have H9 := Lib.hid h9; clear ho h9))
            go_region_law (first
            | (go_simp; go_at_call 11; refine hcp2.mono ?_; clear hcp2 hld2; rintro e w10 ⟨a2, rfl, h10, hdr⟩; have H10 := Lib.hid h10; clear h10)
            | (go_simp; go_at_call 16; refine hdr.mono ?_; clear hdr; intro e w11 hq; obtain ⟨rfl, h11⟩ := H10.out.refer hq; obtain ⟨o2, hl1, hl2, hsm⟩ := h11.same; unfold ovArr at hl1 hl2 hsm; have H11 := Lib.hid h11; clear hq h11)
            | (go_simp; go_at_call 12; refine hsm.mono ?_; clear hsm hl1 hl2; rintro e w12 ⟨rfl, hb12⟩; have h12 := H11.out.below hb12; have hlv := load_obs h12.seen.var rfl; have hwr := wreck20_any h12.seen.wr; unfold ovArr at hlv hwr; have H12 := Lib.hid h12; clear h12 hb12))
            all_goals go_wp2_with (first
            | (go_at_call 17; refine hwr.mono ?_; clear hwr hlv; rintro e w13 ⟨rfl, hs13⟩; have H13 := Lib.hid (H12.out.wrecked hs13); clear hs13))
            all_goals exact ⟨⟨k + 1, by omega, by go_num, _, _, _, H13.out, Nat.le_trans (doM_plan _ _) HPS.out⟩, by simp [intOf]; omega⟩
        · obtain rfl : k = n' := by omega
          have hd := HRR.out.below (Below.refl _ _).drew
          obtain ⟨o2, e1, e2, e3, ht⟩ := hd.tells
          have hl1 := (ht _ (Below.refl _ _)).1
          have hse := hd.run.seen
          have E1 := Lib.hid e1
          have E2 := Lib.hid e2
          have E3 := Lib.hid e3
          have HT := Lib.hid ht
          have HD := Lib.hid hd
          unfold ovArr at hl1
          clear e1 e2 e3 ht hd
          go_wp2_with (fail)
          go_region_law (first
          | (go_simp; go_at_call 9; refine hse.mono ?_; clear hse hl1; rintro e w14 ⟨A, n, c, es, A2, n2, c2, A3, n3, c3, us, rfl, ho⟩; have hl1 := (HT.out _ ho.bel).1; have hsm := same20_any ho.kept.at_ (HT.out _ ho.bel).2 (Nat.le_refl _); rw [sameO_of (ho.ents.trans E1.out.symm) E2.out.symm (ho.srvs.trans E3.out.symm)] at hsm; have HB14 := Lib.hid (HD.out.below ho.bel); unfold ovArr at hsm hl1; clear ho)
          | (go_simp; go_at_call 12; refine hsm.mono ?_; clear hsm hl1; rintro e w15 ⟨rfl, hb15⟩; have HB15 := Lib.hid (HB14.out.below hb15); clear hb15))
          all_goals go_wp2_with (fail)
          all_goals go_ret
          all_goals exact ⟨rfl, HB15.out.run.bel⟩
end
end Go.Proofs.YtibndaianhlcaaaDoor
namespace Go.Proofs.YtibndaianhlcaaaDoor
open Go.ChangeShapes Go.WideShapes
set_option linter.unusedVariables false
set_option linter.unusedSimpArgs false

namespace Bulk
theorem one_le {H : Type} (d : DataW H) : 1 ≤ Rows.uptoBulk d := by
  cases d with
  | lit l => cases l <;> simp [Rows.uptoBulk]
  | nil => simp [Rows.uptoBulk]
  | ptr d => simp [Rows.uptoBulk]
  | slice elems spare => simp [Rows.uptoBulk]
  | agg parts => simp [Rows.uptoBulk]
  | iface t d => simp [Rows.uptoBulk]
  | map entries => simp [Rows.uptoBulk]
  | held h => simp [Rows.uptoBulk]
theorem part_le {H : Type} {d : DataW H} {l : List (DataW H)} (h : d ∈ l) : Rows.uptoBulk d ≤ Rows.uptoBulkAll l := by
  induction l with
  | nil => cases h
  | cons x r ih =>
    simp only [Rows.uptoBulkAll]
    cases List.mem_cons.1 h with
    | inl e => subst e; omega
    | inr e => have := ih e; omega
theorem length_le {H : Type} (l : List (DataW H)) : l.length ≤ Rows.uptoBulkAll l := by
  induction l with
  | nil => simp [Rows.uptoBulkAll]
  | cons x r ih => have := one_le x; simp only [Rows.uptoBulkAll, List.length_cons]; omega
theorem slice_elems {H : Type} (elems spare : List (DataW H)) : Rows.uptoBulkAll elems + 1 ≤ Rows.uptoBulk (.slice elems spare) := by
  simp only [Rows.uptoBulk]
  omega
theorem agg {H : Type} (l : List (DataW H)) : Rows.uptoBulkAll l + 1 = Rows.uptoBulk (.agg l) := by simp only [Rows.uptoBulk]
theorem string_eq {H : Type} (bytes : List UInt8) : Rows.uptoBulk (DataW.lit (H := H) (.string bytes)) = bytes.length + 1 := by
  simp [Rows.uptoBulk]
theorem bound {H : Type} {l : List (DataW H)} (hk : Rows.uptoSmall H l = true) : Rows.uptoBulkAll l ≤ 1048576 := by
  simpa [Rows.uptoSmall] using hk
theorem slice_spare {H : Type} (elems spare : List (DataW H)) : elems.length + spare.length + 1 ≤ Rows.uptoBulk (.slice elems spare) := by
  have h1 := length_le elems
  have h2 := length_le spare
  simp only [Rows.uptoBulk]
  omega
end Bulk
end Go.Proofs.YtibndaianhlcaaaDoor
