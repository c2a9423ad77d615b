/- Layer 20: the document's examples. Layer 20: what was observed, kept; steps that came in. activate.Acts: the acts told so far, and the closure that adds one. -/
import Derived.Test.YtibndaianhlcaaaGreatDoorPart21
import Derived.Test.YtibndaianhlcaaaGreatDoorPart23
namespace Go.Proofs.YtibndaianhlcaaaGreatDoor
open Go.RowKit Go.Sort Go.Shelf
set_option linter.unusedVariables false
set_option linter.unusedSimpArgs false

def aU20 : AV := ⟨6, [117], ⟨[], 0, [], none, 0, 0⟩, ⟨[117], [114, 117, 110], [], none, 0, 0, [], none, 0, 0⟩⟩
def aV20 (A : Option Addr) : AV := ⟨6, [118], ⟨[], 0, [], none, 0, 0⟩, ⟨[118], [114, 117, 110], [[119]], A, 1, 1, [], none, 0, 0⟩⟩
def aS20 : AV := ⟨1, [117], ⟨[], 0, [], none, 0, 0⟩, ⟨[], [], [], none, 0, 0, [], none, 0, 0⟩⟩
def r1_20 : Mach × Int := doM newM aU20.act
def r2_20 : Mach × Int := doM r1_20.1 aU20.act
def r3_20 : Mach × Int := doM r2_20.1 (aV20 none).act
def s4_20 : Mach := ⟨r3_20.1.files, r3_20.1.users, r3_20.1.units, [true, false]⟩
def r5_20 : Mach × Int := doM s4_20 aS20.act
def r6_20 : Mach × Int := doM r5_20.1 aS20.act
def r7_20 : Mach × Int := doM r6_20.1 aS20.act
theorem shown20_facts : r1_20.2 = 0 ∧ r2_20.2 = 0 ∧ r3_20.2 = 70 ∧ r5_20.2 = 71 ∧ r6_20.2 = 0 ∧ r7_20.2 = 0 ∧ r7_20.1.units.length = 0 := by decide +kernel
theorem small_const (kind : Int) (name nm st : Txt) (rq : List Txt) (A : Option Addr) (n c : Nat) (h1 : name.length ≤ 10) (h2 : nm.length ≤ 10) (h3 : st.length ≤ 10) (h4 : ∀ t ∈ rq, t.length ≤ 10) (hn : n ≤ 10) : SmallA ⟨kind, name, ⟨[], 0, [], none, 0, 0⟩, ⟨nm, st, rq, A, n, c, [], none, 0, 0⟩⟩ :=
  ⟨⟨by show 0 ≤ 1000000000; omega, by show n ≤ 1000000000; omega, by show 0 ≤ 1000000000; omega⟩, by show name.length ≤ 1000000000; omega, by show ([] : Txt).length ≤ 1000000000; simp, by show st.length ≤ 1000000000; omega, fun t ht => by
    rcases List.mem_cons.1 ht with h | h
    · rw [h]; show nm.length ≤ 1000000000; omega
    · rcases List.mem_append.1 h with h | h
      · have := h4 t h; omega
      · cases h⟩
theorem act_none {W : World} {kind : Int} {name nm st : Txt} : ActAt W 0 ⟨kind, name, ⟨[], 0, [], none, 0, 0⟩, ⟨nm, st, [], none, 0, 0, [], none, 0, 0⟩⟩ := ⟨slc_none _ _ _, slc_none _ _ _, slc_none _ _ _⟩
theorem apart_none {F : Nat → Prop} {kind : Int} {name nm st : Txt} {rq : List Txt} : ActApart F ⟨kind, name, ⟨[], 0, [], none, 0, 0⟩, ⟨nm, st, rq, none, 0, 0, [], none, 0, 0⟩⟩ := ⟨(fun _ x h => by cases h), (fun _ x h => by cases h)⟩
def cU20 : Array Value := #[.int .i64 6, .string ⟨#[117]⟩, .string ⟨#[]⟩, .int .i64 0, .slice none 0 0, .string ⟨#[117]⟩, .string ⟨#[114, 117, 110]⟩, .slice none 0 0, .slice none 0 0]
def cV20 (A : Option Addr) : Array Value := #[.int .i64 6, .string ⟨#[118]⟩, .string ⟨#[]⟩, .int .i64 0, .slice none 0 0, .string ⟨#[118]⟩, .string ⟨#[114, 117, 110]⟩, .slice A 1 1, .slice none 0 0]
def cS20 : Array Value := #[.int .i64 1, .string ⟨#[117]⟩, .string ⟨#[]⟩, .int .i64 0, .slice none 0 0, .string ⟨#[]⟩, .string ⟨#[]⟩, .slice none 0 0, .slice none 0 0]
/-- What the examples keep in memory. -/
structure Sh20 (w w1 W : World) (B : Nat) (F : Nat → Prop) (s : Mach) : Prop where
  run : MRun w B W F w.heap.size s
  u : KeepB W F w1.heap.size 61 cU20
  r : KeepB W F (w1.heap.size + 1) 9 #[.string ⟨#[119]⟩]
  v : KeepB W F (w1.heap.size + 1 + 1) 61 (cV20 (some ⟨w1.heap.size + 1, 0, none⟩))
theorem Sh20.did {w w1 W W' : World} {B : Nat} {F : Nat → Prop} {s : Mach} (h : Sh20 w w1 W B F s) {a : ActP} (ha : SmallP a) {e : Ending} (hp : MachPost W F w.heap.size (doM s a) e W') : e = .returned (.int .i64 (doM s a).2) ∧ Sh20 w w1 W' B (Fn F W W') (doM s a).1 ∧ Step W W' F (Fn F W W') := by
  obtain ⟨h1, h2, h3⟩ := h.run.did ha hp
  exact ⟨h1, ⟨h2, h.u.step h3, h.r.step h3, h.v.step h3⟩, h3⟩
theorem Sh20.loadU {w w1 W : World} {B : Nat} {F : Nat → Prop} {s : Mach} (h : Sh20 w w1 W B F s) : (LoadS 61 (.pointer (some ⟨w1.heap.size, 0, none⟩))).run Tryz.prog W = .ok (.agg cU20) W := load_act h.u.blk rfl
theorem Sh20.loadV {w w1 W : World} {B : Nat} {F : Nat → Prop} {s : Mach} (h : Sh20 w w1 W B F s) : (LoadS 61 (.pointer (some ⟨w1.heap.size + 1 + 1, 0, none⟩))).run Tryz.prog W = .ok (.agg (cV20 (some ⟨w1.heap.size + 1, 0, none⟩))) W := load_act h.v.blk rfl
theorem smallU20 : SmallA aU20 := small_const 6 [117] [117] [114, 117, 110] [] none 0 0 (by decide) (by decide) (by decide) (by decide) (by decide)
theorem smallV20 (A : Option Addr) : SmallA (aV20 A) := small_const 6 [118] [118] [114, 117, 110] [[119]] A 1 1 (by decide) (by decide) (by decide) (by decide) (by decide)
theorem smallS20 : SmallA aS20 := small_const 1 [117] [] [] [] none 0 0 (by decide) (by decide) (by decide) (by decide) (by decide)
theorem small_act (a : AV) (h1 : a.file.data = []) (h2 : a.unit.req.length ≤ 10) (h3 : a.unit.aft = []) : SmallP a.act := ⟨by show a.file.data.length ≤ _; rw [h1]; simp, by show a.unit.req.length ≤ _; omega, by show a.unit.aft.length ≤ _; rw [h3]; simp⟩
theorem Sh20.doU {w w1 W : World} {B : Nat} {F : Nat → Prop} {s : Mach} (h : Sh20 w w1 W B F s) : Calls Tryz.prog 42 #[.pointer (some ⟨w.heap.size, 0, none⟩), .agg cU20] W (MachPost W F w.heap.size (doM s aU20.act)) :=
  h.run.do_ (a := aU20) act_none (Nat.zero_le _) smallU20 apart_none
theorem Sh20.doV {w w1 W : World} {B : Nat} {F : Nat → Prop} {s : Mach} (h : Sh20 w w1 W B F s) : Calls Tryz.prog 42 #[.pointer (some ⟨w.heap.size, 0, none⟩), .agg (cV20 (some ⟨w1.heap.size + 1, 0, none⟩))] W (MachPost W F w.heap.size (doM s (aV20 none).act)) :=
  h.run.do_ (a := aV20 (some ⟨w1.heap.size + 1, 0, none⟩)) ⟨slc_none _ _ _, (h.r.blk.slc (sz := 1) (n := 1) (c := 1) (Nat.le_refl _) (Nat.le_refl _) (by decide)), slc_none _ _ _⟩ h.r.blk.lt (smallV20 _) ⟨fun _ x hx => by
    have hx : some (⟨w1.heap.size + 1, 0, none⟩ : Addr) = some x := hx
    injection hx with hx
    rw [← hx]
    exact h.r.out, (fun _ x hx => by cases hx)⟩
/-- Behind New. -/
theorem sh_start {w w1 : World} (hm : MachAt w1 (fun k => k = w.heap.size) w.heap.size newM) (hb : Below w.heap.size w w1) : ∃ W3, W3 = ((w1.alloc (.cells cU20 61)).alloc (.cells #[.string ⟨#[119]⟩] 9)).alloc (.cells (cV20 (some ⟨w1.heap.size + 1, 0, none⟩)) 61) ∧ Sh20 w w1 W3 W3.heap.size (fun k => k = w.heap.size) newM := by
  obtain ⟨fA, fn, fc, es, uA, un, uc, nA, nn, nc, us, pA, pn, pc, hv⟩ := hm
  have hlt : w.heap.size < w1.heap.size := hv.blk.lt
  have hF : ∀ k, k = w.heap.size → k < w1.heap.size := fun k hk => by omega
  have b1 : Below w1.heap.size w1 (w1.alloc (.cells cU20 61)) := bel_new _ _
  have b2 := b1.alloc b1.size (.cells #[.string ⟨#[119]⟩] 9)
  have b3 := b2.alloc b2.size (.cells (cV20 (some ⟨w1.heap.size + 1, 0, none⟩)) 61)
  refine ⟨_, rfl, ⟨⟨fA, fn, fc, es, uA, un, uc, nA, nn, nc, us, pA, pn, pc, hv.below b3⟩, good_new, small_new, fun k hk => .inl hk, fun k hk => by have := hF k hk; have := b3.size; omega, hb.trans (b3.mono hb.size), Nat.le_refl _, by have := b3.size; omega, Nat.le_refl _⟩, ⟨((Blk.new _ _ _).alloc _).alloc _, fun h => by have h : w1.heap.size = w.heap.size := h; omega⟩, ⟨?_, fun h => by have h : w1.heap.size + 1 = w.heap.size := h; omega⟩, ⟨?_, fun h => by have h : w1.heap.size + 1 + 1 = w.heap.size := h; omega⟩⟩
  · have := Blk.new (w1.alloc (.cells cU20 61)) 9 #[.string ⟨#[119]⟩]
    rw [World.size_alloc] at this
    exact this.alloc _
  · have := Blk.new ((w1.alloc (.cells cU20 61)).alloc (.cells #[.string ⟨#[119]⟩] 9)) 61 (cV20 (some ⟨w1.heap.size + 1, 0, none⟩))
    rw [World.size_alloc, World.size_alloc] at this
    exact this
/-- Behind Plan, with the act that stops. -/
structure Sh20b (w W : World) (B : Nat) (F : Nat → Prop) (s : Mach) (g : Nat) : Prop where
  run : MRun w B W F w.heap.size s
  x : KeepB W F g 61 cS20
theorem Sh20b.did {w W W' : World} {B g : Nat} {F : Nat → Prop} {s : Mach} (h : Sh20b w W B F s g) {a : ActP} (ha : SmallP a) {e : Ending} (hp : MachPost W F w.heap.size (doM s a) e W') : e = .returned (.int .i64 (doM s a).2) ∧ Sh20b w W' B (Fn F W W') (doM s a).1 g := by
  obtain ⟨h1, h2, h3⟩ := h.run.did ha hp
  exact ⟨h1, ⟨h2, h.x.step h3⟩⟩
theorem Sh20b.load {w W : World} {B g : Nat} {F : Nat → Prop} {s : Mach} (h : Sh20b w W B F s g) : (LoadS 61 (.pointer (some ⟨g, 0, none⟩))).run Tryz.prog W = .ok (.agg cS20) W := load_act h.x.blk rfl
theorem Sh20b.do_ {w W : World} {B g : Nat} {F : Nat → Prop} {s : Mach} (h : Sh20b w W B F s g) : Calls Tryz.prog 42 #[.pointer (some ⟨w.heap.size, 0, none⟩), .agg cS20] W (MachPost W F w.heap.size (doM s aS20.act)) :=
  h.run.do_ (a := aS20) act_none (Nat.zero_le _) smallS20 apart_none
theorem Sh20b.new {w W : World} {B : Nat} {F : Nat → Prop} {s : Mach} (h : MRun w B W F w.heap.size s) : Sh20b w (W.alloc (.cells cS20 61)) B F s W.heap.size := ⟨h.below (bel_new _ _), KeepB.new h.lt _ _⟩
theorem Sh20.plan {w w1 W : World} {B : Nat} {F : Nat → Prop} {s : Mach} (h : Sh20 w w1 W B F s) : Calls Tryz.prog 21 #[.pointer (some ⟨w.heap.size, 2, none⟩), .slice (some ⟨W.heap.size, 0, none⟩) 2 2] (W.alloc (.cells #[.bool true, .bool false] 4)) fun e w' => e = .returned (.tuple #[]) ∧ ∃ G, MRun w B w' G w.heap.size ⟨s.files, s.users, s.units, [true, false]⟩ := by
  have hr := h.run.below (bel_new W (.cells #[.bool true, .bool false] 4))
  have hs := (Blk.new W 4 #[.bool true, .bool false]).slc (sz := 1) (n := 2) (c := 2) (Nat.le_refl _) (Nat.le_refl _) (by decide)
  refine (plan_any hr.mach (p := [true, false]) hs (by simp) (by decide)).mono ?_
  rintro e w' ⟨rfl, hm, hst⟩
  exact ⟨rfl, _, hr.planned hm hst⟩
theorem field_running (a b c : Value) (W : World) : Sem.run Tryz.prog (Instr.field 28 (.agg #[a, b, .slice (match c with | .slice A _ _ => A | _ => none) (match c with | .slice _ n _ => n | _ => 0) (match c with | .slice _ _ k => k | _ => 0)]) 2) W = .ok (.slice (match c with | .slice A _ _ => A | _ => none) (match c with | .slice _ n _ => n | _ => 0) (match c with | .slice _ _ k => k | _ => 0)) W := by kernel_rfl
theorem field_run (a b : Value) (A : Option Addr) (n c : Nat) (W : World) : Sem.run Tryz.prog (Instr.field 28 (.agg #[a, b, .slice A n c]) 2) W = .ok (.slice A n c) W := field_running a b (.slice A n c) W
end Go.Proofs.YtibndaianhlcaaaGreatDoor
namespace Go.Proofs.YtibndaianhlcaaaGreatDoor
open Go.RowKit Go.Sort Go.Shelf
set_option linter.unusedVariables false
set_option linter.unusedSimpArgs false

/-- What was observed, in blocks that are kept. -/
structure ObsK (W : World) (G : Nat → Prop) (o : OV) : Prop where
  at_ : ObsAt W W.heap.size o
  files : ∀ a, o.A = some a → G a.block
  users : ∀ a, o.A2 = some a → G a.block
  units : ∀ a, o.A3 = some a → G a.block
  data : ∀ e ∈ o.es, ∀ a, e.A = some a → G a.block
  req : ∀ u ∈ o.us, ∀ a, u.A = some a → G a.block
  aft : ∀ u ∈ o.us, ∀ a, u.A2 = some a → G a.block
theorem ObsK.step {W W' : World} {F F' G : Nat → Prop} {o : OV} (h : ObsK W G o) (st : Step W W' F F') (hd : ∀ k, G k → ¬ F k) : ObsK W' G o := by
  have key : ∀ {sz : Nat} {A : Option Addr} {n c : Nat} {xs : List Value}, Slc W W.heap.size sz A n c xs → (∀ a, A = some a → G a.block) → Slc W' W'.heap.size sz A n c xs := fun hs hg => (hs.apart st (fun a ha hF => hd _ (hg a ha) hF)).more st.size
  obtain ⟨⟨⟨h1, h2, h3⟩, h4, ⟨h5, h6, h7, h8⟩⟩, g1, g2, g3, g4, g5, g6⟩ := h
  exact ⟨⟨⟨key h1 g1, h2, fun e he => key (h3 e he) (g4 e he)⟩, key h4 g2, ⟨key h5 g3, h6, fun u hu => key (h7 u hu) (g5 u hu), fun u hu => key (h8 u hu) (g6 u hu)⟩⟩, g1, g2, g3, g4, g5, g6⟩
theorem ObsK.below {W W' : World} {G : Nat → Prop} {o : OV} (h : ObsK W G o) (hb : Below W.heap.size W W') : ObsK W' G o := h.step (F := fun _ => False) (F' := fun _ => False) ⟨hb.os, hb.tape, hb.output, hb.size, fun k hk _ => hb.block k hk, fun k hk => .inl hk⟩ (fun k _ h => h)
theorem own_in {w : World} {base : Nat} {e : TypeId} {sz : Nat} {A : Option Addr} {n m c : Nat} {xs : List Value} (h : w.ownsRow base e sz (.slice A m c) n xs) : ∀ a, A = some a → base ≤ a.block ∧ a.block < w.heap.size := fun a ha => by
  subst ha
  exact h.lt a.block rfl
theorem row_in {w : World} {F : Nat → Prop} {e : TypeId} {sz : Nat} {A : Option Addr} {n m c : Nat} {xs : List Value} (h : Row w F e sz (.slice A m c) n xs) : ∀ a, A = some a → F a.block ∧ a.block < w.heap.size := fun a ha => by
  subst ha
  exact ⟨h.foot a.block rfl, h.lt a.block rfl⟩
/-- What Observe told, kept. -/
theorem ObsOut.kept {w w' : World} {s : Mach} {A : Option Addr} {n c : Nat} {es : List EV} {A2 : Option Addr} {n2 c2 : Nat} {A3 : Option Addr} {n3 c3 : Nat} {us : List SV} (h : ObsOut w w' s A n c es A2 n2 c2 A3 n3 c3 us) :
    ObsK w' (fun k => w.heap.size ≤ k ∧ k < w'.heap.size) ⟨A, n, c, es, A2, n2, c2, s.users, A3, n3, c3, us⟩ := by
  refine ⟨⟨h.files.ents, h.users.slc', ⟨h.units.row.slc', h.units.len, fun u hu => (h.units.req u hu).slc', fun u hu => (h.units.aft u hu).slc'⟩⟩, own_in h.files.own, row_in h.users, row_in h.units.row, fun e he a ha => ?_, fun u hu => row_in (h.units.req u hu), fun u hu => row_in (h.units.aft u hu)⟩
  obtain ⟨g, g1, g2, g3, _⟩ := h.files.data e he
  rw [g1] at ha
  injection ha with ha
  subst ha
  exact ⟨g2, g3⟩
theorem sameO_of {a b : OV} (h1 : a.es.map EV.ent = b.es.map EV.ent) (h2 : a.users = b.users) (h3 : a.us.map SV.srv = b.us.map SV.srv) : sameO a b = true := (sameO_iff a b).2 ⟨h1, h2, h3⟩

/-- Steps in memory, below block B. -/
def avCells (a : AV) : List Value := (avArr a).toList
theorem avCells_length (a : AV) : (avCells a).length = 9 := rfl
structure ActsAt (w : World) (B : Nat) (A : Option Addr) (n c : Nat) (l : List AV) : Prop where
  slc : Slc w B 9 A n c (l.flatMap avCells)
  len : l.length = n
  acts : ∀ a ∈ l, ActAt w B a
theorem ActsAt.below {w w' : World} {B : Nat} {A : Option Addr} {n c : Nat} {l : List AV} (h : ActsAt w B A n c l) (hb : Below B w w') : ActsAt w' B A n c l := ⟨h.slc.below hb, h.len, fun a ha => (h.acts a ha).below hb⟩
theorem ActsAt.at_ {w : World} {B : Nat} {A : Option Addr} {n c : Nat} {l : List AV} (h : ActsAt w B A n c l) {k : Nat} (hk : k < n) :
    ∃ b off, A = some ⟨b, off, none⟩ ∧ ∃ hl : k < l.length, (LoadS 61 (.pointer (some ⟨b, off + k * 9, none⟩))).run Tryz.prog w = .ok (.agg (avArr l[k])) w ∧ ActAt w B l[k] := by
  obtain ⟨b, off, e, hb, hc⟩ := h.slc.at_ (by omega)
  have hl : k < l.length := by rw [h.len]; exact hk
  refine ⟨b, off, e, hl, ?_, h.acts _ (List.getElem_mem hl)⟩
  have hr : w.rangeAt b (off + k * 9) (avCells l[k]) := fun j v hj => by
    have hj9 : j < 9 := (List.getElem?_eq_some_iff.1 hj).1
    have := hc (k * 9 + j) v (by rw [flatMap_get avCells 9 l (fun o _ => avCells_length o) k j hl hj9]; exact hj)
    rwa [← Nat.add_assoc] at this
  have h1 := run_loadAt_mid (P := Tryz.prog) w b (off + k * 9) 61 (avCells l[k]) _ hr Tryz.underlying61 rfl (by rw [avCells_length]; kernel_rfl)
  exact h1
/-- Steps whose texts memory can hold. -/
theorem SmallA.plain {a : AV} (h : SmallA a) (h1 : a.file.data.length = a.file.n) (h2 : a.unit.req.length = a.unit.n) (h3 : a.unit.aft.length = a.unit.n2) : SmallP a.act :=
  ⟨by show a.file.data.length ≤ _; rw [h1]; exact h.lens.1, by show a.unit.req.length ≤ _; rw [h2]; exact h.lens.2.1, by show a.unit.aft.length ≤ _; rw [h3]; exact h.lens.2.2⟩
theorem ActAt.small {w : World} {B : Nat} {a : AV} (h : ActAt w B a) (hs : SmallA a) : SmallP a.act :=
  hs.plain (by have := h.data.len; simpa using this) (by have := h.req.len; simpa using this) (by have := h.aft.len; simpa using this)
theorem SmallA.same {a b : AV} (h : SmallA a) (e : b.act = a.act) (hl : ActLens b) : SmallA b := by
  obtain ⟨k, nm, ⟨fp, fk, fd, fA, fn, fc⟩, ⟨un, us, ur, uA, uan, uc, ua, uA2, un2, uc2⟩⟩ := a
  obtain ⟨k', nm', ⟨fp', fk', fd', fA', fn', fc'⟩, ⟨un', us', ur', uA', uan', uc', ua', uA2', un2', uc2'⟩⟩ := b
  simp only [AV.act, EV.ent, SV.srv, ActP.mk.injEq, Ent.mk.injEq, Srv.mk.injEq] at e
  obtain ⟨rfl, rfl, ⟨rfl, rfl, rfl⟩, rfl, rfl, rfl, rfl⟩ := e
  exact ⟨hl, h.name, h.path, h.start, h.texts⟩
/-- A copied step lies apart from the machine. -/
theorem OwnAct.apart {w : World} {F G : Nat → Prop} {a : AV} (h : OwnAct w G a) (hd : ∀ k, G k → ¬ F k) : ActApart F a :=
  ⟨fun _ x hx => hd _ (row_in h.req x hx).1, fun _ x hx => hd _ (row_in h.aft x hx).1⟩
end Go.Proofs.YtibndaianhlcaaaGreatDoor
namespace Go.Proofs.YtibndaianhlcaaaGreatDoor
open Go.RowKit Go.Sort Go.Shelf
set_option linter.unusedVariables false
set_option linter.unusedSimpArgs false

theorem act_info21 : (Tryz.prog.info? 61).map (fun i => (i.zero, i.size, i.bytes)) = some (some (.agg #[.int .i64 0, .string .empty, .string .empty, .int .i64 0, .slice none 0 0, .string .empty, .string .empty, .slice none 0 0, .slice none 0 0]), 9, 152) := by kernel_rfl
theorem avs_one (l : List AV) : ∀ v ∈ l.flatMap avCells, v.oneCell' = true := by
  intro v hv
  obtain ⟨a, _, he⟩ := List.mem_flatMap.1 hv
  unfold avCells avArr at he
  simp only [List.mem_cons, List.not_mem_nil, or_false] at he
  rcases he with rfl | rfl | rfl | rfl | rfl | rfl | rfl | rfl | rfl <;> rfl
/-- The acts told so far: block g is the variable, all else lies behind it. -/
structure ActsW (w : World) (g : Nat) (A : Option Addr) (k c : Nat) (l : List AV) : Prop where
  var : Blk w g 40 #[.slice A k c]
  own : w.ownsRow (g + 1) 61 9 (.slice A k c) k (l.flatMap avCells)
  acts : ∀ a ∈ l, ActAt w w.heap.size a
  out : ∀ a ∈ l, ∀ x, (a.file.A = some x ∨ a.unit.A = some x ∨ a.unit.A2 = some x) → g + 1 ≤ x.block ∧ x.block < w.heap.size ∧ (Value.slice A k c).ownBlock ≠ some x.block
theorem ActsW.len {w : World} {g : Nat} {A : Option Addr} {k c : Nat} {l : List AV} (h : ActsW w g A k c l) : l.length = k := by
  have := h.own.1
  rw [flatMap_len avCells 9 l (fun o _ => avCells_length o)] at this
  omega
theorem ActAt.more {w : World} {B B' : Nat} {a : AV} (h : ActAt w B a) (hB : B ≤ B') : ActAt w B' a := ⟨h.data.more hB, h.req.more hB, h.aft.more hB⟩
theorem ActsW.below {w w' : World} {g : Nat} {A : Option Addr} {k c : Nat} {l : List AV} (h : ActsW w g A k c l) (hb : Below w.heap.size w w') : ActsW w' g A k c l :=
  ⟨h.var.below hb h.var.lt, own_below h.own hb, fun a ha => ((h.acts a ha).below hb).more hb.size, fun a ha x hx => by
    obtain ⟨h1, h2, h3⟩ := h.out a ha x hx
    exact ⟨h1, Nat.lt_of_lt_of_le h2 hb.size, h3⟩⟩
theorem ActsW.nil (w : World) : ActsW (w.alloc (.cells #[.slice none 0 0] 40)) w.heap.size none 0 0 [] :=
  ⟨Blk.new _ _ _, World.ownsRow_nil _ _ _ _, (fun a ha => by cases ha), (fun a ha => by cases ha)⟩
/-- What an act that is added must be. -/
structure ActNew (w : World) (g : Nat) (A : Option Addr) (k c : Nat) (a : AV) : Prop where
  at_ : ActAt w w.heap.size a
  out : ∀ x, (a.file.A = some x ∨ a.unit.A = some x ∨ a.unit.A2 = some x) → g + 1 ≤ x.block ∧ x.block < w.heap.size ∧ (Value.slice A k c).ownBlock ≠ some x.block
theorem ActNew.plain (w : World) (g : Nat) (A : Option Addr) (k c : Nat) (kind : Int) (name : Txt) : ActNew w g A k c ⟨kind, name, ev0, sv0⟩ :=
  ⟨⟨slc_none _ _ _, slc_none _ _ _, slc_none _ _ _⟩, fun x hx => by rcases hx with h | h | h <;> cases h⟩
theorem Slc.apartB {w w' : World} {B sz : Nat} {A : Option Addr} {n c : Nat} {xs : List Value} (h : Slc w B sz A n c xs) (hk : ∀ x, A = some x → w'.heap[x.block]? = w.heap[x.block]?) : Slc w' B sz A n c xs :=
  ⟨h.len, h.le, h.cmax, fun hn => by
    obtain ⟨b, off, e, hb, hc⟩ := h.at_ hn
    refine ⟨b, off, e, hb, fun j u hu => ?_⟩
    rw [World.cell?_of_block (w := w) (a := ⟨b, off + j, none⟩) (hk ⟨b, off, none⟩ e)]
    exact hc j u hu⟩
theorem ActAt.apartB {w w' : World} {B : Nat} {a : AV} (h : ActAt w B a) (hk : ∀ x, (a.file.A = some x ∨ a.unit.A = some x ∨ a.unit.A2 = some x) → w'.heap[x.block]? = w.heap[x.block]?) : ActAt w' B a :=
  ⟨h.data.apartB fun x hx => hk x (.inl hx), h.req.apartB fun x hx => hk x (.inr (.inl hx)), h.aft.apartB fun x hx => hk x (.inr (.inr hx))⟩
set_option maxRecDepth 100000 in
set_option maxHeartbeats 1000000 in
/-- The closure adds an act. -/
theorem add21_any {w : World} {g : Nat} {A : Option Addr} {k c : Nat} {l : List AV} (h : ActsW w g A k c l) {a : AV} (ha : ActNew w g A k c a) (hk : k ≤ 1000000000) :
    Calls Tryz.prog 59 #[.agg (avArr a), .pointer (some ⟨g, 0, none⟩)] w fun e w' => ∃ A' c', e = .returned (.tuple #[]) ∧ ActsW w' g A' (k + 1) c' (l ++ [a]) ∧ Below g w w' := by
  obtain ⟨W1, hW1⟩ : ∃ W1, W1 = w.alloc (.cells (avArr a) 61) := ⟨_, rfl⟩
  have hgl := h.var.lt
  have hb1 : Below w.heap.size w W1 := by rw [hW1]; exact bel_new _ _
  have hz1 : W1.heap.size = w.heap.size + 1 := by rw [hW1]; simp
  have h1 := h.below hb1
  obtain ⟨i, hi, hz0, hzz, hz2⟩ := info_parts act_info21
  have hs := slc_new W1 61 (0, 0) (avArr a) (sz := 9) (n := 1) (c := 1) rfl (Nat.le_refl _) (by decide)
  obtain ⟨A', c', w3, r3, o3, g3, hv3⟩ := append_slc (P := Tryz.prog) (W1.alloc (.cells (avArr a) 61)) (g + 1) 40 40 61 i _ 9 152 Tryz.underlying40 hi hz0 hzz hz2 rfl (by decide) _ k (l.flatMap avCells) (h1.own.alloc _) _ _ 1 1 (avCells a) hs (fun u hu => avs_one [a] u (by rw [List.flatMap_cons, List.flatMap_nil, List.append_nil]; exact hu)) (by unfold maxLen; omega) (by omega) (by simp; omega)
  rw [World.size_alloc] at hv3
  have hb2 : Below w.heap.size w (W1.alloc (.cells (avArr a) 61)) := hb1.alloc hb1.size _
  have hz3 : w.heap.size + 2 ≤ w3.heap.size := by have := g3.size; rw [World.size_alloc, hz1] at this; exact this
  have hkeep : ∀ q, q < w.heap.size → (Value.slice A k c).ownBlock ≠ some q → w3.heap[q]? = w.heap[q]? := fun q hq hne =>
    (g3.block q (by rw [World.size_alloc]; omega) (fun e => hne e.symm)).trans (hb2.block q hq)
  have hgo : (Value.slice A k c).ownBlock ≠ some g := fun e => by have := (h.own.lt _ e).1; omega
  have hvar : Blk w3 g 40 #[.slice A k c] := (hkeep g hgl hgo).trans h.var
  obtain ⟨W4, hW4⟩ : ∃ W4, W4 = w3.setCell ⟨g, 0, none⟩ (.slice A' (k + 1) c') := ⟨_, rfl⟩
  have hz4 : W4.heap.size = w3.heap.size := by rw [hW4]; simp [World.setCell]
  have hk4 : ∀ q, q ≠ g → W4.heap[q]? = w3.heap[q]? := fun q hq => by rw [hW4]; exact Below.heap_setCell w3 _ _ q hq
  have hown4 : W4.ownsRow (g + 1) 61 9 (.slice A' (k + 1) c') (k + 1) ((l ++ [a]).flatMap avCells) := by
    have e : (l ++ [a]).flatMap avCells = l.flatMap avCells ++ avCells a := by rw [List.flatMap_append, List.flatMap_cons, List.flatMap_nil, List.append_nil]
    rw [e]
    exact own_keep o3 (fun q hq => hk4 q (fun e9 => by have := (o3.lt _ hq).1; omega))
  have hall : ∀ x ∈ l ++ [a], ActAt w w.heap.size x ∧ ∀ y, (x.file.A = some y ∨ x.unit.A = some y ∨ x.unit.A2 = some y) → g + 1 ≤ y.block ∧ y.block < w.heap.size ∧ (Value.slice A k c).ownBlock ≠ some y.block := by
    intro x hx
    rcases List.mem_append.1 hx with hx | hx
    · exact ⟨h.acts x hx, h.out x hx⟩
    · rw [List.mem_singleton.1 hx]; exact ⟨ha.at_, ha.out⟩
  have HV : Hid (ActsW W4 g A' (k + 1) c' (l ++ [a])) := by
    refine ⟨?_, hown4, fun x hx => ?_, fun x hx y hy => ?_⟩
    · have := hvar.set_ 0 (.slice A' (k + 1) c')
      rw [hW4]
      exact this
    · obtain ⟨q1, q2⟩ := hall x hx
      refine (q1.apartB fun y hy => ?_).more (by omega)
      obtain ⟨y1, y2, y3⟩ := q2 y hy
      exact (hk4 _ (by omega)).trans (hkeep _ y2 y3)
    · obtain ⟨q1, q2⟩ := hall x hx
      obtain ⟨y1, y2, y3⟩ := q2 y hy
      refine ⟨y1, by omega, fun e => ?_⟩
      rcases hv3 with hv | hv
      · rw [hv] at e; exact y3 e
      · rw [hv] at e; injection e with e; omega
  have HB4 : Hid (Below g w W4) := by
    rw [hW4]
    exact ((hb2.mono (Nat.le_of_lt hgl)).grown g3 (by rw [World.size_alloc]; omega) (fun q hq => by have := (h.own.lt _ hq).1; omega)).setCell (p := ⟨g, 0, none⟩) (Nat.le_refl _) _
  rw [hz1, hW1] at r3
  have HR3 := Lib.hid r3
  have v0 := (h.var.below hb1 hgl).cell 0
  have v3 := hvar.cell 0
  have vf := hvar.frozen 0
  rw [hW1] at v0
  rw [hW4] at HV HB4
  clear hW1 hW4 hb1 hz1 h1 hs o3 g3 hv3 hb2 hz3 hkeep hgo hvar hz4 hk4 hown4 hall r3 ha h
  unfold avArr at *
  simp only [List.getElem?_toArray, List.getElem?_cons_zero] at v0 v3
  go_enter Tryz.func59, Tryz.ntmps59
  go_wp2_with (at_builtin; refine wpList_append_run rfl _ _ _ rfl rfl rfl HR3.out ?_; clear HR3)
  go_end0
  exact ⟨A', c', rfl, HV.out, HB4.out⟩
/-- A file's act: its bytes copied. -/
structure FileAct (wr w4 w3 : World) (g : Nat) (A : Option Addr) (m c : Nat) (l : List AV) (x : EV) (g3 c3 : Nat) : Prop where
  acts : ActsW (w3.setCell ⟨wr.heap.size, 2, none⟩ (.slice (some ⟨g3, 0, none⟩) x.n c3)) g A m c l
  new : ActNew (w3.setCell ⟨wr.heap.size, 2, none⟩ (.slice (some ⟨g3, 0, none⟩) x.n c3)) g A m c ⟨4, x.path, ⟨x.path, x.kind, x.data, some ⟨g3, 0, none⟩, x.n, c3⟩, sv0⟩
  cells : w4.cell? ⟨wr.heap.size, 2, none⟩ = some (.slice x.A x.n x.c) ∧ wr.heap.size < w4.heap.size ∧ w3.frozen? ⟨wr.heap.size, 2, none⟩ = false ∧ w3.cell? ⟨wr.heap.size, 0, none⟩ = some (.string ⟨x.path.toArray⟩) ∧ w3.cell? ⟨wr.heap.size, 1, none⟩ = some (.int .i64 x.kind) ∧ w3.cell? ⟨wr.heap.size, 2, none⟩ = some (.slice x.A x.n x.c)
  bel : Below wr.heap.size wr (w3.setCell ⟨wr.heap.size, 2, none⟩ (.slice (some ⟨g3, 0, none⟩) x.n c3))
theorem Slc.setC {w : World} {B sz g n c : Nat} {xs : List Value} (h : Slc w B sz (some ⟨g, 0, none⟩) n c xs) {p : Addr} (hp : p.block ≠ g) (v : Value) : Slc (w.setCell p v) B sz (some ⟨g, 0, none⟩) n c xs :=
  h.apartB fun x hx => by rw [← Option.some.inj hx]; exact Below.heap_setCell w p v g (fun e => hp e.symm)
theorem file_act {wr W1 w4 w3 : World} {g : Nat} {A : Option Addr} {m c : Nat} {l : List AV} {x : EV} (ha : ActsW wr g A m c l) (hb1 : Below wr.heap.size wr W1) (hb4 : Below W1.heap.size W1 w4) (hz1 : W1.heap.size = wr.heap.size + 1) (hG : Blk W1 wr.heap.size 35 (evArr x)) {g3 c3 : Nat} (S : CopiedB w4 x.A x.n x.c x.data g3 c3 w3) :
    (Builtin.append_ #[33, 33] 33 #[.slice (some ⟨w4.heap.size, 0, none⟩) 0 0, .slice x.A x.n x.c]).run Tryz.prog (w4.alloc (.cells #[] 5)) = .ok (.slice (some ⟨g3, 0, none⟩) x.n c3) w3 ∧ FileAct wr w4 w3 g A m c l x g3 c3 := by
  have h4 := hb4.size
  have hG4 := hG.below hb4 hG.lt
  have hG3 := hG4.below S.bel hG4.lt
  have hge := S.ge
  have hlt := S.lt
  have hgl := ha.var.lt
  have hb : Below wr.heap.size wr (w3.setCell ⟨wr.heap.size, 2, none⟩ (.slice (some ⟨g3, 0, none⟩) x.n c3)) := ((hb1.trans (hb4.mono hb1.size)).trans (S.bel.mono (by omega))).setCell (p := ⟨wr.heap.size, 2, none⟩) (Nat.le_refl _) _
  have hz : (w3.setCell ⟨wr.heap.size, 2, none⟩ (.slice (some ⟨g3, 0, none⟩) x.n c3)).heap.size = w3.heap.size := by simp [World.setCell]
  refine ⟨S.run, ⟨ha.below hb, ⟨⟨((own_slc_of S.own).setC (by simp only; omega) _).more (by rw [hz]; exact Nat.le_refl _), slc_none _ _ _, slc_none _ _ _⟩, fun y hy => ?_⟩, ⟨hG4.cell 2, by omega, hG3.frozen 2, hG3.cell 0, hG3.cell 1, hG3.cell 2⟩, hb⟩⟩
  rcases hy with hy | hy | hy
  · rw [← Option.some.inj hy]
    refine ⟨by simp only; omega, by rw [hz]; exact hlt, fun e => ?_⟩
    have := (ha.own.lt _ e).2
    simp only at this
    omega
  · cases hy
  · cases hy
/-- A unit's act: its lists copied. -/
structure UnitAct (wr W1 : World) (g : Nat) (A : Option Addr) (m c : Nat) (l : List AV) (u : SV) (g3 c3 : Nat) (w3 : World) (g5 c5 : Nat) (w5 : World) : Prop where
  r3 : (Builtin.append_ #[23, 23] 23 #[.slice (some ⟨W1.heap.size, 0, none⟩) 0 0, .slice u.A u.n u.c]).run Tryz.prog (W1.alloc (.cells #[] 9)) = .ok (.slice (some ⟨g3, 0, none⟩) u.n c3) w3
  r5 : (Builtin.append_ #[23, 23] 23 #[.slice (some ⟨w3.heap.size, 0, none⟩) 0 0, .slice u.A2 u.n2 u.c2]).run Tryz.prog ((w3.setCell ⟨wr.heap.size, 2, none⟩ (.slice (some ⟨g3, 0, none⟩) u.n c3)).alloc (.cells #[] 9)) = .ok (.slice (some ⟨g5, 0, none⟩) u.n2 c5) w5
  cells : wr.heap.size < w3.heap.size ∧ w3.frozen? ⟨wr.heap.size, 2, none⟩ = false ∧ w3.cell? ⟨wr.heap.size, 2, none⟩ = some (.slice u.A u.n u.c) ∧ w3.cell? ⟨wr.heap.size, 3, none⟩ = some (.slice u.A2 u.n2 u.c2)
  cells5 : w5.frozen? ⟨wr.heap.size, 3, none⟩ = false ∧ w5.cell? ⟨wr.heap.size, 0, none⟩ = some (.string ⟨u.name.toArray⟩) ∧ w5.cell? ⟨wr.heap.size, 1, none⟩ = some (.string ⟨u.start.toArray⟩) ∧ w5.cell? ⟨wr.heap.size, 2, none⟩ = some (.slice (some ⟨g3, 0, none⟩) u.n c3) ∧ w5.cell? ⟨wr.heap.size, 3, none⟩ = some (.slice u.A2 u.n2 u.c2)
  bel : Below wr.heap.size wr (w5.setCell ⟨wr.heap.size, 3, none⟩ (.slice (some ⟨g5, 0, none⟩) u.n2 c5))
  new : ∀ W, Below (w5.setCell ⟨wr.heap.size, 3, none⟩ (.slice (some ⟨g5, 0, none⟩) u.n2 c5)).heap.size (w5.setCell ⟨wr.heap.size, 3, none⟩ (.slice (some ⟨g5, 0, none⟩) u.n2 c5)) W → ActNew W g A m c ⟨6, u.name, ev0, ⟨u.name, u.start, u.req, some ⟨g3, 0, none⟩, u.n, c3, u.aft, some ⟨g5, 0, none⟩, u.n2, c5⟩⟩
theorem unit_act {wr W1 : World} {B g : Nat} {A : Option Addr} {m c : Nat} {l : List AV} {u : SV} (ha : ActsW wr g A m c l) (hb1 : Below wr.heap.size wr W1) (hz1 : W1.heap.size = wr.heap.size + 1) (hG : Blk W1 wr.heap.size 59 (svArr u)) (h1 : Slc W1 B 1 u.A u.n u.c (u.req.map encStr)) (h2 : Slc W1 B 1 u.A2 u.n2 u.c2 (u.aft.map encStr)) (hB : B ≤ wr.heap.size) (hn : u.n ≤ 1000000000 ∧ u.n2 ≤ 1000000000) :
    ∃ g3 c3 w3 g5 c5 w5, UnitAct wr W1 g A m c l u g3 c3 w3 g5 c5 w5 := by
  have hgl := ha.var.lt
  obtain ⟨g3, c3, w3, S3⟩ := strs_copy h1 (by omega) hn.1
  have hG3 := hG.below S3.bel hG.lt
  have hz3 := S3.bel.size
  have g3ge := S3.ge
  have g3lt := S3.lt
  obtain ⟨W5, hW5⟩ : ∃ W5, W5 = w3.setCell ⟨wr.heap.size, 2, none⟩ (.slice (some ⟨g3, 0, none⟩) u.n c3) := ⟨_, rfl⟩
  have hz5 : W5.heap.size = w3.heap.size := by rw [hW5]; simp [World.setCell]
  have hG5 := hG3.set_ 2 (.slice (some ⟨g3, 0, none⟩) u.n c3)
  rw [← hW5] at hG5
  have hb5 : Below wr.heap.size wr W5 := by rw [hW5]; exact (hb1.trans (S3.bel.mono hb1.size)).setCell (p := ⟨wr.heap.size, 2, none⟩) (Nat.le_refl _) _
  have h25 : Slc W5 B 1 u.A2 u.n2 u.c2 (u.aft.map encStr) := by
    have hbw : Below B W1 W5 := by rw [hW5]; exact (S3.bel.mono (by omega)).setCell (p := ⟨wr.heap.size, 2, none⟩) hB _
    exact h2.below hbw
  obtain ⟨g5, c5, w5, S5⟩ := strs_copy h25 (by omega) hn.2
  have hG6 := hG5.below S5.bel hG5.lt
  have hz6 := S5.bel.size
  have g5ge := S5.ge
  have g5lt := S5.lt
  have r5 := S5.run
  rw [hz5, hW5] at r5
  obtain ⟨W6, hW6⟩ : ∃ W6, W6 = w5.setCell ⟨wr.heap.size, 3, none⟩ (.slice (some ⟨g5, 0, none⟩) u.n2 c5) := ⟨_, rfl⟩
  have hz7 : W6.heap.size = w5.heap.size := by rw [hW6]; simp [World.setCell]
  have hb6 : Below wr.heap.size wr W6 := by rw [hW6]; exact (hb5.trans (S5.bel.mono hb5.size)).setCell (p := ⟨wr.heap.size, 3, none⟩) (Nat.le_refl _) _
  refine ⟨g3, c3, w3, g5, c5, w5, ⟨S3.run, r5, ⟨by omega, hG3.frozen 2, hG3.cell 2, hG3.cell 3⟩, ⟨hG6.frozen 3, hG6.cell 0, hG6.cell 1, hG6.cell 2, hG6.cell 3⟩, by rw [← hW6]; exact hb6, ?_⟩⟩
  rw [← hW6]
  intro W hW
  have e3 : Slc W6 w3.heap.size 1 (some ⟨g3, 0, none⟩) u.n c3 (u.req.map encStr) := by
    have q := (own_slc_of S3.own).setC (p := ⟨wr.heap.size, 2, none⟩) (by simp only; omega) (.slice (some ⟨g3, 0, none⟩) u.n c3)
    rw [← hW5] at q
    rw [hW6]
    exact (q.below (S5.bel.mono (by omega))).setC (p := ⟨wr.heap.size, 3, none⟩) (by simp only; omega) _
  have e5 : Slc W6 w5.heap.size 1 (some ⟨g5, 0, none⟩) u.n2 c5 (u.aft.map encStr) := by
    rw [hW6]
    exact (own_slc_of S5.own).setC (p := ⟨wr.heap.size, 3, none⟩) (by simp only; omega) _
  have hzW := hW.size
  refine ⟨⟨slc_none _ _ _, (e3.below (hW.mono (by omega))).more (by omega), (e5.below (hW.mono (by omega))).more (by omega)⟩, fun y hy => ?_⟩
  rcases hy with hy | hy | hy
  · cases hy
  · rw [← Option.some.inj hy]
    refine ⟨by simp only; omega, by simp only; omega, fun e => ?_⟩
    have := (ha.own.lt _ e).2
    simp only at this
    omega
  · rw [← Option.some.inj hy]
    refine ⟨by simp only; omega, by simp only; omega, fun e => ?_⟩
    have := (ha.own.lt _ e).2
    simp only at this
    omega
end Go.Proofs.YtibndaianhlcaaaGreatDoor
