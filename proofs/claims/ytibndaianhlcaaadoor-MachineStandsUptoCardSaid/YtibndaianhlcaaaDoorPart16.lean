/- Layer 20: the document's examples. Layer 20: what was observed, kept; steps that came in. The walk of MachineAgain. The walk of the reference's Name (bootjackref06). -/
import Derived.Test.YtibndaianhlcaaaDoorPart15
import Derived.Test.YtibndaianhlcaaaDoorPart2
import Derived.Deep.QuietTactic
import Derived.BigQuiet
namespace Go.Proofs.YtibndaianhlcaaaDoor
open Go.RowKit Go.Sort Go.Shelf
set_option linter.unusedVariables false
set_option linter.unusedSimpArgs false

def aU20 : AV := ⟨6, [117], ⟨[], 0, [], none, 0, 0⟩, ⟨[117], [114, 117, 110], [], none, 0, 0, [], none, 0, 0⟩⟩
def aV20 (A : Option Addr) : AV := ⟨6, [118], ⟨[], 0, [], none, 0, 0⟩, ⟨[118], [114, 117, 110], [[119]], A, 1, 1, [], none, 0, 0⟩⟩
def aS20 : AV := ⟨1, [117], ⟨[], 0, [], none, 0, 0⟩, ⟨[], [], [], none, 0, 0, [], none, 0, 0⟩⟩
def r1_20 : Mach × Int := doM newM aU20.act
def r2_20 : Mach × Int := doM r1_20.1 aU20.act
def r3_20 : Mach × Int := doM r2_20.1 (aV20 none).act
def s4_20 : Mach := ⟨r3_20.1.files, r3_20.1.users, r3_20.1.units, [true, false]⟩
def r5_20 : Mach × Int := doM s4_20 aS20.act
def r6_20 : Mach × Int := doM r5_20.1 aS20.act
def r7_20 : Mach × Int := doM r6_20.1 aS20.act
theorem shown20_facts : r1_20.2 = 0 ∧ r2_20.2 = 0 ∧ r3_20.2 = 70 ∧ r5_20.2 = 71 ∧ r6_20.2 = 0 ∧ r7_20.2 = 0 ∧ r7_20.1.units.length = 0 := by decide +kernel
theorem small_const (kind : Int) (name nm st : Txt) (rq : List Txt) (A : Option Addr) (n c : Nat) (h1 : name.length ≤ 10) (h2 : nm.length ≤ 10) (h3 : st.length ≤ 10) (h4 : ∀ t ∈ rq, t.length ≤ 10) (hn : n ≤ 10) : SmallA ⟨kind, name, ⟨[], 0, [], none, 0, 0⟩, ⟨nm, st, rq, A, n, c, [], none, 0, 0⟩⟩ :=
  ⟨⟨by show 0 ≤ 1000000000; omega, by show n ≤ 1000000000; omega, by show 0 ≤ 1000000000; omega⟩, by show name.length ≤ 1000000000; omega, by show ([] : Txt).length ≤ 1000000000; simp, by show st.length ≤ 1000000000; omega, fun t ht => by
    rcases List.mem_cons.1 ht with h | h
    · rw [h]; show nm.length ≤ 1000000000; omega
    · rcases List.mem_append.1 h with h | h
      · have := h4 t h; omega
      · cases h⟩
theorem act_none {W : World} {kind : Int} {name nm st : Txt} : ActAt W 0 ⟨kind, name, ⟨[], 0, [], none, 0, 0⟩, ⟨nm, st, [], none, 0, 0, [], none, 0, 0⟩⟩ := ⟨slc_none _ _ _, slc_none _ _ _, slc_none _ _ _⟩
theorem apart_none {F : Nat → Prop} {kind : Int} {name nm st : Txt} {rq : List Txt} : ActApart F ⟨kind, name, ⟨[], 0, [], none, 0, 0⟩, ⟨nm, st, rq, none, 0, 0, [], none, 0, 0⟩⟩ := ⟨(fun x h => by cases h), (fun x h => by cases h)⟩
def cU20 : Array Value := #[.int .i64 6, .string ⟨#[117]⟩, .string ⟨#[]⟩, .int .i64 0, .slice none 0 0, .string ⟨#[117]⟩, .string ⟨#[114, 117, 110]⟩, .slice none 0 0, .slice none 0 0]
def cV20 (A : Option Addr) : Array Value := #[.int .i64 6, .string ⟨#[118]⟩, .string ⟨#[]⟩, .int .i64 0, .slice none 0 0, .string ⟨#[118]⟩, .string ⟨#[114, 117, 110]⟩, .slice A 1 1, .slice none 0 0]
def cS20 : Array Value := #[.int .i64 1, .string ⟨#[117]⟩, .string ⟨#[]⟩, .int .i64 0, .slice none 0 0, .string ⟨#[]⟩, .string ⟨#[]⟩, .slice none 0 0, .slice none 0 0]
/-- What the examples keep in memory. -/
structure Sh20 (w w1 W : World) (B : Nat) (F : Nat → Prop) (s : Mach) : Prop where
  run : MRun w B W F w.heap.size s
  u : KeepB W F w1.heap.size 48 cU20
  r : KeepB W F (w1.heap.size + 1) 9 #[.string ⟨#[119]⟩]
  v : KeepB W F (w1.heap.size + 1 + 1) 48 (cV20 (some ⟨w1.heap.size + 1, 0, none⟩))
theorem Sh20.did {w w1 W W' : World} {B : Nat} {F : Nat → Prop} {s : Mach} (h : Sh20 w w1 W B F s) {a : ActP} (ha : SmallP a) {e : Ending} (hp : MachPost W F w.heap.size (doM s a) e W') : e = .returned (.int .i64 (doM s a).2) ∧ Sh20 w w1 W' B (Fn F W W') (doM s a).1 ∧ Step W W' F (Fn F W W') := by
  obtain ⟨h1, h2, h3⟩ := h.run.did ha hp
  exact ⟨h1, ⟨h2, h.u.step h3, h.r.step h3, h.v.step h3⟩, h3⟩
theorem Sh20.loadU {w w1 W : World} {B : Nat} {F : Nat → Prop} {s : Mach} (h : Sh20 w w1 W B F s) : (LoadS 48 (.pointer (some ⟨w1.heap.size, 0, none⟩))).run Tryd.prog W = .ok (.agg cU20) W := load_act h.u.blk rfl
theorem Sh20.loadV {w w1 W : World} {B : Nat} {F : Nat → Prop} {s : Mach} (h : Sh20 w w1 W B F s) : (LoadS 48 (.pointer (some ⟨w1.heap.size + 1 + 1, 0, none⟩))).run Tryd.prog W = .ok (.agg (cV20 (some ⟨w1.heap.size + 1, 0, none⟩))) W := load_act h.v.blk rfl
theorem smallU20 : SmallA aU20 := small_const 6 [117] [117] [114, 117, 110] [] none 0 0 (by decide) (by decide) (by decide) (by decide) (by decide)
theorem smallV20 (A : Option Addr) : SmallA (aV20 A) := small_const 6 [118] [118] [114, 117, 110] [[119]] A 1 1 (by decide) (by decide) (by decide) (by decide) (by decide)
theorem smallS20 : SmallA aS20 := small_const 1 [117] [] [] [] none 0 0 (by decide) (by decide) (by decide) (by decide) (by decide)
theorem small_act (a : AV) (h1 : a.file.data = []) (h2 : a.unit.req.length ≤ 10) (h3 : a.unit.aft = []) : SmallP a.act := ⟨by show a.file.data.length ≤ _; rw [h1]; simp, by show a.unit.req.length ≤ _; omega, by show a.unit.aft.length ≤ _; rw [h3]; simp⟩
theorem Sh20.doU {w w1 W : World} {B : Nat} {F : Nat → Prop} {s : Mach} (h : Sh20 w w1 W B F s) : Calls Tryd.prog 10 #[.pointer (some ⟨w.heap.size, 0, none⟩), .agg cU20] W (MachPost W F w.heap.size (doM s aU20.act)) :=
  h.run.do_ (a := aU20) act_none (Nat.zero_le _) smallU20 apart_none
theorem Sh20.doV {w w1 W : World} {B : Nat} {F : Nat → Prop} {s : Mach} (h : Sh20 w w1 W B F s) : Calls Tryd.prog 10 #[.pointer (some ⟨w.heap.size, 0, none⟩), .agg (cV20 (some ⟨w1.heap.size + 1, 0, none⟩))] W (MachPost W F w.heap.size (doM s (aV20 none).act)) :=
  h.run.do_ (a := aV20 (some ⟨w1.heap.size + 1, 0, none⟩)) ⟨slc_none _ _ _, (h.r.blk.slc (sz := 1) (n := 1) (c := 1) (Nat.le_refl _) (Nat.le_refl _) (by decide)), slc_none _ _ _⟩ h.r.blk.lt (smallV20 _) ⟨fun x hx => by
    have hx : some (⟨w1.heap.size + 1, 0, none⟩ : Addr) = some x := hx
    injection hx with hx
    rw [← hx]
    exact h.r.out, (fun x hx => by cases hx)⟩
/-- Behind New. -/
theorem sh_start {w w1 : World} (hm : MachAt w1 (fun k => k = w.heap.size) w.heap.size newM) (hb : Below w.heap.size w w1) : ∃ W3, W3 = ((w1.alloc (.cells cU20 48)).alloc (.cells #[.string ⟨#[119]⟩] 9)).alloc (.cells (cV20 (some ⟨w1.heap.size + 1, 0, none⟩)) 48) ∧ Sh20 w w1 W3 W3.heap.size (fun k => k = w.heap.size) newM := by
  obtain ⟨fA, fn, fc, es, uA, un, uc, nA, nn, nc, us, pA, pn, pc, hv⟩ := hm
  have hlt : w.heap.size < w1.heap.size := hv.blk.lt
  have hF : ∀ k, k = w.heap.size → k < w1.heap.size := fun k hk => by omega
  have b1 : Below w1.heap.size w1 (w1.alloc (.cells cU20 48)) := bel_new _ _
  have b2 := b1.alloc b1.size (.cells #[.string ⟨#[119]⟩] 9)
  have b3 := b2.alloc b2.size (.cells (cV20 (some ⟨w1.heap.size + 1, 0, none⟩)) 48)
  refine ⟨_, rfl, ⟨⟨fA, fn, fc, es, uA, un, uc, nA, nn, nc, us, pA, pn, pc, hv.below b3⟩, good_new, small_new, fun k hk => .inl hk, fun k hk => by have := hF k hk; have := b3.size; omega, hb.trans (b3.mono hb.size), Nat.le_refl _, by have := b3.size; omega, Nat.le_refl _⟩, ⟨((Blk.new _ _ _).alloc _).alloc _, fun h => by have h : w1.heap.size = w.heap.size := h; omega⟩, ⟨?_, fun h => by have h : w1.heap.size + 1 = w.heap.size := h; omega⟩, ⟨?_, fun h => by have h : w1.heap.size + 1 + 1 = w.heap.size := h; omega⟩⟩
  · have := Blk.new (w1.alloc (.cells cU20 48)) 9 #[.string ⟨#[119]⟩]
    rw [World.size_alloc] at this
    exact this.alloc _
  · have := Blk.new ((w1.alloc (.cells cU20 48)).alloc (.cells #[.string ⟨#[119]⟩] 9)) 48 (cV20 (some ⟨w1.heap.size + 1, 0, none⟩))
    rw [World.size_alloc, World.size_alloc] at this
    exact this
/-- Behind Plan, with the act that stops. -/
structure Sh20b (w W : World) (B : Nat) (F : Nat → Prop) (s : Mach) (g : Nat) : Prop where
  run : MRun w B W F w.heap.size s
  x : KeepB W F g 48 cS20
theorem Sh20b.did {w W W' : World} {B g : Nat} {F : Nat → Prop} {s : Mach} (h : Sh20b w W B F s g) {a : ActP} (ha : SmallP a) {e : Ending} (hp : MachPost W F w.heap.size (doM s a) e W') : e = .returned (.int .i64 (doM s a).2) ∧ Sh20b w W' B (Fn F W W') (doM s a).1 g := by
  obtain ⟨h1, h2, h3⟩ := h.run.did ha hp
  exact ⟨h1, ⟨h2, h.x.step h3⟩⟩
theorem Sh20b.load {w W : World} {B g : Nat} {F : Nat → Prop} {s : Mach} (h : Sh20b w W B F s g) : (LoadS 48 (.pointer (some ⟨g, 0, none⟩))).run Tryd.prog W = .ok (.agg cS20) W := load_act h.x.blk rfl
theorem Sh20b.do_ {w W : World} {B g : Nat} {F : Nat → Prop} {s : Mach} (h : Sh20b w W B F s g) : Calls Tryd.prog 10 #[.pointer (some ⟨w.heap.size, 0, none⟩), .agg cS20] W (MachPost W F w.heap.size (doM s aS20.act)) :=
  h.run.do_ (a := aS20) act_none (Nat.zero_le _) smallS20 apart_none
theorem Sh20b.new {w W : World} {B : Nat} {F : Nat → Prop} {s : Mach} (h : MRun w B W F w.heap.size s) : Sh20b w (W.alloc (.cells cS20 48)) B F s W.heap.size := ⟨h.below (bel_new _ _), KeepB.new h.lt _ _⟩
theorem Sh20.plan {w w1 W : World} {B : Nat} {F : Nat → Prop} {s : Mach} (h : Sh20 w w1 W B F s) : Calls Tryd.prog 8 #[.pointer (some ⟨w.heap.size, 2, none⟩), .slice (some ⟨W.heap.size, 0, none⟩) 2 2] (W.alloc (.cells #[.bool true, .bool false] 4)) fun e w' => e = .returned (.tuple #[]) ∧ ∃ G, MRun w B w' G w.heap.size ⟨s.files, s.users, s.units, [true, false]⟩ := by
  have hr := h.run.below (bel_new W (.cells #[.bool true, .bool false] 4))
  have hs := (Blk.new W 4 #[.bool true, .bool false]).slc (sz := 1) (n := 2) (c := 2) (Nat.le_refl _) (Nat.le_refl _) (by decide)
  refine (plan_any hr.mach (p := [true, false]) hs (by simp) (by decide)).mono ?_
  rintro e w' ⟨rfl, hm, hst⟩
  exact ⟨rfl, _, hr.planned hm hst⟩
theorem field_running (a b c : Value) (W : World) : Sem.run Tryd.prog (Instr.field 38 (.agg #[a, b, .slice (match c with | .slice A _ _ => A | _ => none) (match c with | .slice _ n _ => n | _ => 0) (match c with | .slice _ _ k => k | _ => 0)]) 2) W = .ok (.slice (match c with | .slice A _ _ => A | _ => none) (match c with | .slice _ n _ => n | _ => 0) (match c with | .slice _ _ k => k | _ => 0)) W := by kernel_rfl
theorem field_run (a b : Value) (A : Option Addr) (n c : Nat) (W : World) : Sem.run Tryd.prog (Instr.field 38 (.agg #[a, b, .slice A n c]) 2) W = .ok (.slice A n c) W := field_running a b (.slice A n c) W
section
attribute [local go_sem ↓] load_act_mark
set_option maxRecDepth 100000 in
set_option maxHeartbeats 4000000 in
theorem shown20_any (w : World) : Calls Tryd.prog 6 #[] w fun e w' => e = .returned (.bool true) ∧ Below w.heap.size w w' := by
  have hnew := new_any w
  have HF := Lib.hid shown20_facts
  go_enter Tryd.func6, Tryd.ntmps6
  go_wp2_with (first
    | (go_at_call 7; refine hnew.mono ?_; clear hnew; rintro e w1 ⟨rfl, hm, hb⟩; obtain ⟨W3, hW3, h3⟩ := sh_start hm hb; have hl1 := h3.loadU; have hd1 := h3.doU; rw [hW3] at hl1 hd1; have H3 := Lib.hid h3; have HW3 := Lib.hid hW3; unfold cU20 cV20 at hl1 hd1; clear hm hb h3 hW3)
    | (go_at_call 10; first
      | (refine hd1.mono ?_; clear hd1 hl1; intro e w4 hp; have hp' : MachPost W3 _ _ (doM newM aU20.act) e w4 := (by rw [HW3.out]; exact hp); obtain ⟨rfl, h4, -⟩ := H3.out.did (small_act aU20 rfl (by decide) rfl) hp'; clear hp hp'; rw [show (doM newM aU20.act).2 = 0 from HF.out.1]; have hl2 := h4.loadU; have hd2 := h4.doU; have H4 := Lib.hid h4; unfold cU20 at hl2 hd2; clear h4)
      | (refine hd2.mono ?_; clear hd2 hl2; intro e w5 hp; obtain ⟨rfl, h5, -⟩ := H4.out.did (small_act aU20 rfl (by decide) rfl) hp; clear hp; rw [show (doM (doM newM aU20.act).1 aU20.act).2 = 0 from HF.out.2.1]; have hl3 := h5.loadV; have hd3 := h5.doV; have H5 := Lib.hid h5; unfold cV20 at hl3 hd3; clear h5)
      | (refine hd3.mono ?_; clear hd3 hl3; intro e w6 hp; obtain ⟨rfl, h6, -⟩ := H5.out.did (small_act (aV20 none) rfl (by decide) rfl) hp; clear hp; rw [show (doM (doM (doM newM aU20.act).1 aU20.act).1 (aV20 none).act).2 = 70 from HF.out.2.2.1]; have hpl := h6.plan; clear h6)
      | (refine hd4.mono ?_; clear hd4 hl4; intro e w8 hp; obtain ⟨he, h8⟩ := HP.out.did (small_act aS20 rfl (by decide) rfl) hp; clear hp; replace he : e = .returned (.int .i64 71) := he.trans (congrArg (fun k => Ending.returned (.int .i64 k)) HF.out.2.2.2.1); subst he; have hl5 := h8.load; have hd5 := h8.do_; have H8 := Lib.hid h8; unfold cS20 at hl5 hd5; clear h8)
      | (refine hd5.mono ?_; clear hd5 hl5; intro e w9 hp; obtain ⟨he, h9⟩ := H8.out.did (small_act aS20 rfl (by decide) rfl) hp; clear hp; replace he : e = .returned (.int .i64 0) := he.trans (congrArg (fun k => Ending.returned (.int .i64 k)) HF.out.2.2.2.2.1); subst he; have hl6 := h9.load; have hd6 := h9.do_; have H9 := Lib.hid h9; unfold cS20 at hl6 hd6; clear h9)
      | (refine hd6.mono ?_; clear hd6 hl6; intro e w10 hp; obtain ⟨he, h10⟩ := H9.out.did (small_act aS20 rfl (by decide) rfl) hp; clear hp; replace he : e = .returned (.int .i64 0) := he.trans (congrArg (fun k => Ending.returned (.int .i64 k)) HF.out.2.2.2.2.2.1); subst he; have hsee := h10.run.seen; have H10 := Lib.hid h10; clear h10))
    | (go_at_call 8; refine hpl.mono ?_; clear hpl; rintro e w7 ⟨rfl, G, h7⟩; have h7b := Sh20b.new h7; have hl4 := h7b.load; have hd4 := h7b.do_; have HP := Lib.hid h7b; unfold cS20 at hl4 hd4; clear h7 h7b)
    | (go_at_call 9; refine hsee.mono ?_; clear hsee; rintro e w11 ⟨A, n, c, es, A2, n2, c2, A3, n3, c3, us, rfl, ho⟩; have hn3 : n3 = 0 := ho.nn.trans HF.out.2.2.2.2.2.2; have hfr := field_run (.slice A n c) (.slice A2 n2 c2) A3 0 c3 w11; have HB := Lib.hid (H10.out.run.bel.trans (ho.bel.mono H10.out.run.bel.size)); clear ho; subst hn3))
  go_ret
  exact ⟨rfl, HB.out⟩
end
end Go.Proofs.YtibndaianhlcaaaDoor
namespace Go.Proofs.YtibndaianhlcaaaDoor
open Go.RowKit Go.Sort Go.Shelf
set_option linter.unusedVariables false
set_option linter.unusedSimpArgs false

/-- What was observed, in blocks that are kept. -/
structure ObsK (W : World) (G : Nat → Prop) (o : OV) : Prop where
  at_ : ObsAt W W.heap.size o
  files : ∀ a, o.A = some a → G a.block
  users : ∀ a, o.A2 = some a → G a.block
  units : ∀ a, o.A3 = some a → G a.block
  data : ∀ e ∈ o.es, ∀ a, e.A = some a → G a.block
  req : ∀ u ∈ o.us, ∀ a, u.A = some a → G a.block
  aft : ∀ u ∈ o.us, ∀ a, u.A2 = some a → G a.block
theorem ObsK.step {W W' : World} {F F' G : Nat → Prop} {o : OV} (h : ObsK W G o) (st : Step W W' F F') (hd : ∀ k, G k → ¬ F k) : ObsK W' G o := by
  have key : ∀ {sz : Nat} {A : Option Addr} {n c : Nat} {xs : List Value}, Slc W W.heap.size sz A n c xs → (∀ a, A = some a → G a.block) → Slc W' W'.heap.size sz A n c xs := fun hs hg => (hs.apart st (fun a ha hF => hd _ (hg a ha) hF)).more st.size
  obtain ⟨⟨⟨h1, h2, h3⟩, h4, ⟨h5, h6, h7, h8⟩⟩, g1, g2, g3, g4, g5, g6⟩ := h
  exact ⟨⟨⟨key h1 g1, h2, fun e he => key (h3 e he) (g4 e he)⟩, key h4 g2, ⟨key h5 g3, h6, fun u hu => key (h7 u hu) (g5 u hu), fun u hu => key (h8 u hu) (g6 u hu)⟩⟩, g1, g2, g3, g4, g5, g6⟩
theorem ObsK.below {W W' : World} {G : Nat → Prop} {o : OV} (h : ObsK W G o) (hb : Below W.heap.size W W') : ObsK W' G o := h.step (F := fun _ => False) (F' := fun _ => False) ⟨hb.os, hb.tape, hb.output, hb.size, fun k hk _ => hb.block k hk, fun k hk => .inl hk⟩ (fun k _ h => h)
theorem own_in {w : World} {base : Nat} {e : TypeId} {sz : Nat} {A : Option Addr} {n m c : Nat} {xs : List Value} (h : w.ownsRow base e sz (.slice A m c) n xs) : ∀ a, A = some a → base ≤ a.block ∧ a.block < w.heap.size := fun a ha => by
  subst ha
  exact h.lt a.block rfl
theorem row_in {w : World} {F : Nat → Prop} {e : TypeId} {sz : Nat} {A : Option Addr} {n m c : Nat} {xs : List Value} (h : Row w F e sz (.slice A m c) n xs) : ∀ a, A = some a → F a.block ∧ a.block < w.heap.size := fun a ha => by
  subst ha
  exact ⟨h.foot a.block rfl, h.lt a.block rfl⟩
/-- What Observe told, kept. -/
theorem ObsOut.kept {w w' : World} {s : Mach} {A : Option Addr} {n c : Nat} {es : List EV} {A2 : Option Addr} {n2 c2 : Nat} {A3 : Option Addr} {n3 c3 : Nat} {us : List SV} (h : ObsOut w w' s A n c es A2 n2 c2 A3 n3 c3 us) :
    ObsK w' (fun k => w.heap.size ≤ k ∧ k < w'.heap.size) ⟨A, n, c, es, A2, n2, c2, s.users, A3, n3, c3, us⟩ := by
  refine ⟨⟨h.files.ents, h.users.slc', ⟨h.units.row.slc', h.units.len, fun u hu => (h.units.req u hu).slc', fun u hu => (h.units.aft u hu).slc'⟩⟩, own_in h.files.own, row_in h.users, row_in h.units.row, fun e he a ha => ?_, fun u hu => row_in (h.units.req u hu), fun u hu => row_in (h.units.aft u hu)⟩
  obtain ⟨g, g1, g2, g3, _⟩ := h.files.data e he
  rw [g1] at ha
  injection ha with ha
  subst ha
  exact ⟨g2, g3⟩
theorem sameO_of {a b : OV} (h1 : a.es.map EV.ent = b.es.map EV.ent) (h2 : a.users = b.users) (h3 : a.us.map SV.srv = b.us.map SV.srv) : sameO a b = true := (sameO_iff a b).2 ⟨h1, h2, h3⟩

/-- Steps in memory, below block B. -/
def avCells (a : AV) : List Value := (avArr a).toList
theorem avCells_length (a : AV) : (avCells a).length = 9 := rfl
structure ActsAt (w : World) (B : Nat) (A : Option Addr) (n c : Nat) (l : List AV) : Prop where
  slc : Slc w B 9 A n c (l.flatMap avCells)
  len : l.length = n
  acts : ∀ a ∈ l, ActAt w B a
theorem ActsAt.below {w w' : World} {B : Nat} {A : Option Addr} {n c : Nat} {l : List AV} (h : ActsAt w B A n c l) (hb : Below B w w') : ActsAt w' B A n c l := ⟨h.slc.below hb, h.len, fun a ha => (h.acts a ha).below hb⟩
theorem ActsAt.at_ {w : World} {B : Nat} {A : Option Addr} {n c : Nat} {l : List AV} (h : ActsAt w B A n c l) {k : Nat} (hk : k < n) :
    ∃ b off, A = some ⟨b, off, none⟩ ∧ ∃ hl : k < l.length, (LoadS 48 (.pointer (some ⟨b, off + k * 9, none⟩))).run Tryd.prog w = .ok (.agg (avArr l[k])) w ∧ ActAt w B l[k] := by
  obtain ⟨b, off, e, hb, hc⟩ := h.slc.at_ (by omega)
  have hl : k < l.length := by rw [h.len]; exact hk
  refine ⟨b, off, e, hl, ?_, h.acts _ (List.getElem_mem hl)⟩
  have hr : w.rangeAt b (off + k * 9) (avCells l[k]) := fun j v hj => by
    have hj9 : j < 9 := (List.getElem?_eq_some_iff.1 hj).1
    have := hc (k * 9 + j) v (by rw [flatMap_get avCells 9 l (fun o _ => avCells_length o) k j hl hj9]; exact hj)
    rwa [← Nat.add_assoc] at this
  have h1 := run_loadAt_mid (P := Tryd.prog) w b (off + k * 9) 48 (avCells l[k]) _ hr Tryd.underlying48 rfl (by rw [avCells_length]; kernel_rfl)
  exact h1
/-- Steps whose texts memory can hold. -/
theorem SmallA.plain {a : AV} (h : SmallA a) (h1 : a.file.data.length = a.file.n) (h2 : a.unit.req.length = a.unit.n) (h3 : a.unit.aft.length = a.unit.n2) : SmallP a.act :=
  ⟨by show a.file.data.length ≤ _; rw [h1]; exact h.lens.1, by show a.unit.req.length ≤ _; rw [h2]; exact h.lens.2.1, by show a.unit.aft.length ≤ _; rw [h3]; exact h.lens.2.2⟩
theorem ActAt.small {w : World} {B : Nat} {a : AV} (h : ActAt w B a) (hs : SmallA a) : SmallP a.act :=
  hs.plain (by have := h.data.len; simpa using this) (by have := h.req.len; simpa using this) (by have := h.aft.len; simpa using this)
theorem SmallA.same {a b : AV} (h : SmallA a) (e : b.act = a.act) (hl : ActLens b) : SmallA b := by
  obtain ⟨k, nm, ⟨fp, fk, fd, fA, fn, fc⟩, ⟨un, us, ur, uA, uan, uc, ua, uA2, un2, uc2⟩⟩ := a
  obtain ⟨k', nm', ⟨fp', fk', fd', fA', fn', fc'⟩, ⟨un', us', ur', uA', uan', uc', ua', uA2', un2', uc2'⟩⟩ := b
  simp only [AV.act, EV.ent, SV.srv, ActP.mk.injEq, Ent.mk.injEq, Srv.mk.injEq] at e
  obtain ⟨rfl, rfl, ⟨rfl, rfl, rfl⟩, rfl, rfl, rfl, rfl⟩ := e
  exact ⟨hl, h.name, h.path, h.start, h.texts⟩
/-- A copied step lies apart from the machine. -/
theorem OwnAct.apart {w : World} {F G : Nat → Prop} {a : AV} (h : OwnAct w G a) (hd : ∀ k, G k → ¬ F k) : ActApart F a :=
  ⟨fun x hx => hd _ (row_in h.req x hx).1, fun x hx => hd _ (row_in h.aft x hx).1⟩
end Go.Proofs.YtibndaianhlcaaaDoor
namespace Go.Proofs.YtibndaianhlcaaaDoor
open Go.RowKit Go.Sort Go.Shelf
set_option linter.unusedVariables false
set_option linter.unusedSimpArgs false

theorem MRun.start {w w1 w2 : World} (hb1 : Below w.heap.size w w1) (hm : MachAt w2 (fun k => k = w1.heap.size) w1.heap.size newM) (hb2 : Below w1.heap.size w1 w2) : MRun w w2.heap.size w2 (fun k => k = w1.heap.size) w1.heap.size newM := by
  have h9 := hm
  obtain ⟨fA, fn, fc, es, uA, un, uc, nA, nn, nc, us, pA, pn, pc, hv⟩ := h9
  have hlt : w1.heap.size < w2.heap.size := hv.blk.lt
  have hs1 := hb1.size
  exact ⟨hm, good_new, small_new, fun k hk => .inl hk, fun k hk => by omega, hb1.trans (hb2.mono hs1), hs1, by omega, Nat.le_refl _⟩
theorem MRun.plan_ {w W : World} {B : Nat} {F : Nat → Prop} {g : Nat} {s : Mach} (h : MRun w B W F g s) {C : Nat} {A : Option Addr} {n c : Nat} {p : List Bool} (hp : Slc W C 1 A n c (p.map bl)) (hC : C ≤ W.heap.size) (hn : n ≤ 1000000000) :
    Calls Tryd.prog 8 #[.pointer (some ⟨g, 2, none⟩), .slice A n c] W fun e w' => e = .returned (.tuple #[]) ∧ ∃ G, MRun w B w' G g ⟨s.files, s.users, s.units, p⟩ ∧ G = Fn F W w' ∧ Step W w' F G := by
  refine (plan_any h.mach hp hC hn).mono ?_
  rintro e w' ⟨rfl, hm, hst⟩
  exact ⟨rfl, _, h.planned hm hst, rfl, hst⟩
/-- Behind an observation that is kept in a variable. -/
structure Seen20 (w W : World) (B : Nat) (F : Nat → Prop) (g : Nat) (s : Mach) (G : Nat → Prop) (v : Nat) (o : OV) : Prop where
  run : MRun w B W F g s
  obs : ObsK W G o
  var : KeepB W F v 38 (ovArr o)
  out : ∀ k, G k → ¬ F k
  glt : ∀ k, G k → k < W.heap.size
theorem Seen20.new {w W W4 : World} {B : Nat} {F : Nat → Prop} {g : Nat} {s : Mach} (h : MRun w B W F g s) {A : Option Addr} {n c : Nat} {es : List EV} {A2 : Option Addr} {n2 c2 : Nat} {A3 : Option Addr} {n3 c3 : Nat} {us : List SV} (ho : ObsOut W W4 s A n c es A2 n2 c2 A3 n3 c3 us) :
    Seen20 w (W4.alloc (.cells (ovArr ⟨A, n, c, es, A2, n2, c2, s.users, A3, n3, c3, us⟩) 38)) B F g s (fun k => W.heap.size ≤ k ∧ k < W4.heap.size) W4.heap.size ⟨A, n, c, es, A2, n2, c2, s.users, A3, n3, c3, us⟩ := by
  have h4 := h.below ho.bel
  exact ⟨h4.below (bel_new _ _), ho.kept.below (bel_new _ _), KeepB.new h4.lt _ _, fun k hk hF => by have := h.lt k hF; omega, fun k hk => by simp; omega⟩
theorem Seen20.below {w W W' : World} {B : Nat} {F : Nat → Prop} {g : Nat} {s : Mach} {G : Nat → Prop} {v : Nat} {o : OV} (h : Seen20 w W B F g s G v o) (hb : Below W.heap.size W W') : Seen20 w W' B F g s G v o :=
  ⟨h.run.below hb, h.obs.below hb, h.var.below hb, h.out, fun k hk => Nat.lt_of_lt_of_le (h.glt k hk) hb.size⟩
theorem Seen20.did {w W W' : World} {B : Nat} {F : Nat → Prop} {g : Nat} {s : Mach} {G : Nat → Prop} {v : Nat} {o : OV} (h : Seen20 w W B F g s G v o) {a : ActP} (ha : SmallP a) {e : Ending} (hp : MachPost W F g (doM s a) e W') :
    e = .returned (.int .i64 (doM s a).2) ∧ Seen20 w W' B (Fn F W W') g (doM s a).1 G v o := by
  obtain ⟨h1, h2, h3⟩ := h.run.did ha hp
  exact ⟨h1, h2, h.obs.step h3 h.out, h.var.step h3, fun k hk hF => by rcases hF with hF | hF; exact h.out k hk hF; have := h.glt k hk; omega, fun k hk => Nat.lt_of_lt_of_le (h.glt k hk) h3.size⟩
theorem Seen20.load {w W : World} {B : Nat} {F : Nat → Prop} {g : Nat} {s : Mach} {G : Nat → Prop} {v : Nat} {o : OV} (h : Seen20 w W B F g s G v o) : (LoadS 38 (.pointer (some ⟨v, 0, none⟩))).run Tryd.prog W = .ok (.agg (ovArr o)) W := load_obs h.var.blk rfl
/-- A step copied, and asked of the machine. -/
theorem copied_step {w W : World} {B : Nat} {F : Nat → Prop} {g : Nat} {s : Mach} (h : MRun w B W F g s) {a : AV} (ha : ActAt w w.heap.size a) (hs : SmallA a) :
    Calls Tryd.prog 11 #[.agg (avArr a)] W fun e w' => ∃ a', e = .returned (.agg (avArr a')) ∧ Below W.heap.size W w' ∧ Calls Tryd.prog 10 #[.pointer (some ⟨g, 0, none⟩), .agg (avArr a')] w' (MachPost w' F g (doM s a.act)) := by
  refine (copied20_any (ha.below h.bel) h.bel.size hs.lens).mono ?_
  rintro e w' ⟨a', rfl, he, ho, hl, hb⟩
  refine ⟨a', rfl, hb, ?_⟩
  have := (h.below hb).do_ ho.at_ (Nat.le_refl _) (hs.same he hl) (ho.apart (fun k hk hF => by have := h.lt k hF; omega))
  rwa [he] at this
section
attribute [local go_sem ↓] load_act_mark load_obs_mark
set_option maxRecDepth 100000 in
set_option maxHeartbeats 8000000 in
theorem again20_any {w : World} {A : Option Addr} {n c : Nat} {p : List Bool} (hp : Slc w w.heap.size 1 A n c (p.map bl)) (hn : n ≤ 1000000000) {A' : Option Addr} {n' c' : Nat} {acts : List AV} (hl : ActsAt w w.heap.size A' n' c' acts) (hs : ∀ a ∈ acts, SmallA a) (hn' : n' ≤ 1000000000) :
    Calls Tryd.prog 3 #[.slice A n c, .slice A' n' c'] w fun e w' => e = .returned (.bool true) ∧ Below w.heap.size w w' := by
  have hsh := shown20_any w
  have HP := Lib.hid hp
  have HL := Lib.hid hl
  have HS := Lib.hid hs
  clear hp hl hs
  go_enter Tryd.func3, Tryd.ntmps3
  go_wp2_with (first
    | (go_at_call 6; refine hsh.mono ?_; clear hsh; rintro e w1 ⟨rfl, hb1⟩; have hnew := new_any w1; have HB1 := Lib.hid hb1; clear hb1)
    | (go_at_call 7; refine hnew.mono ?_; clear hnew; rintro e w2 ⟨rfl, hm, hb⟩; have hR := MRun.start HB1.out hm hb; have hpl := hR.plan_ (HP.out.below hR.bel) hR.bel.size hn; clear hm hb)
    | (go_at_call 8; refine hpl.mono ?_; clear hpl hR; rintro e w3 ⟨rfl, G, hR, -, -⟩; have HR := Lib.hid hR; clear hR))
  generalize w2.heap.size = B at *
  generalize w1.heap.size = g at *
  go_loopw [7] (fun i wr => ∃ k : Nat, k ≤ n' ∧ k ≤ 100 ∧ i = .int .i64 (k : Int) ∧ Aside (∃ F s, MRun w B wr F g s)) (fun i _ => n' - (intOf i).toNat)
  case atStart => exact ⟨0, Nat.zero_le _, Nat.zero_le _, rfl, _, _, HR.out⟩
  case round =>
    obtain ⟨k, hk, hk100, rfl, hrr⟩ := hrel
    obtain ⟨F, s, hR⟩ := hrr.out
    have HRR := Lib.hid hR
    clear hR hrr
    by_cases hlt : k < n'
    · by_cases hlt2 : k < 100
      · obtain ⟨b, off, rfl, hkl, -, -⟩ := HL.out.at_ hlt
        have HAK := Lib.hid (HL.out.acts _ (List.getElem_mem hkl))
        have HSK := Lib.hid (HS.out _ (List.getElem_mem hkl))
        have HLD : Hid (∀ W, Below w.heap.size w W → (LoadS 48 (.pointer (some ⟨b, off + k * 9, none⟩))).run Tryd.prog W = .ok (.agg (avArr acts[k])) W) := fun W hb => by obtain ⟨b', off', e9, hkl', h9, -⟩ := (HL.out.below hb).at_ hlt; cases e9; exact h9
        have hlt3 : (k : Int) < 100 := by omega
        generalize acts[k] = a at *
        have HSP := Lib.hid (HAK.out.small HSK.out)
        have hse1 := HRR.out.seen
        have HAG := Lib.hid (fun h => doM_again HRR.out.good a.act h)
        have HFA := Lib.hid (doM_fail s a.act)
        rcases (show (doM s a.act).2 = 0 ∨ (doM s a.act).2 = 70 ∨ (doM s a.act).2 = 71 by by_cases h : (doM s a.act).2 = 0; exact .inl h; exact .inr (HFA.out h).2.2.2) with hz | hz | hz
        · have HZ := Lib.hid hz
          have HZ2 := Lib.hid (HAG.out hz)
          clear hz
          go_wp2_with (first
          | (go_at_call 9; refine hse1.mono ?_; clear hse1; rintro e w4 ⟨A, n, c, es, A2, n2, c2, A3, n3, c3, us, rfl, ho⟩; have h5 := Seen20.new HRR.out ho; have HO1 := Lib.hid ho; have hld := HLD.out _ h5.run.bel; have hcp := copied_step h5.run HAK.out HSK.out; unfold ovArr at hld hcp; have H5 := Lib.hid h5; clear ho h5)
          | (go_at_call 11; refine hcp.mono ?_; clear hcp hld; rintro e w6 ⟨a', rfl, hb6, hd1⟩; have H6 := Lib.hid (H5.out.below hb6); clear hb6)
          | (go_at_call 10; refine hd1.mono ?_; clear hd1; intro e w7 hq; obtain ⟨rfl, h7⟩ := H6.out.did HSP.out hq; rw [HZ.out]; have hse2 := h7.run.seen; have H7 := Lib.hid h7; clear hq h7)
          | (go_at_call 9; refine hse2.mono ?_; clear hse2; rintro e w8 ⟨B1, m, d, fs, B2, m2, d2, B3, m3, d3, vs, rfl, ho2⟩; have h9 := Seen20.new H7.out.run ho2; have HO2 := Lib.hid ho2; have h9b := (H7.out.below ho2.bel).below (bel_new _ (.cells (ovArr ⟨B1, m, d, fs, B2, m2, d2, (doM s a.act).1.users, B3, m3, d3, vs⟩) 38)); have hl1 := h9b.load; have hl2 := h9.load; have hld2 := HLD.out _ h9.run.bel; have hcp2 := copied_step h9.run HAK.out HSK.out; unfold ovArr at hl1 hl2 hld2 hcp2; have H9 := Lib.hid h9; have H9b := Lib.hid h9b; clear ho2 h9 h9b)
          | (go_at_call 11; refine hcp2.mono ?_; clear hcp2 hld2; rintro e w11 ⟨a2, rfl, hb11, hd2⟩; have H11 := Lib.hid (H9.out.below hb11); clear hb11)
          | (go_at_call 10; refine hd2.mono ?_; clear hd2 hl1 hl2; intro e w12 hq; obtain ⟨rfl, h12⟩ := H11.out.did HSP.out hq; rw [HZ2.out.1]; have h12d := h12.below (Below.refl _ w12).drew; have hl3 := h12d.load; have hse3 := h12d.run.seen; unfold ovArr at hl3; have H12 := Lib.hid h12d; clear hq h12 h12d))
          go_region_law (first
          | (go_simp; go_at_call 9; refine hse3.mono ?_; clear hse3; rintro e w13 ⟨C1, q, t, gs, C2, q2, t2, C3, q3, t3, xs, rfl, ho3⟩; have h13 := H12.out.below ho3.bel; have hl4 := h13.load; have hsm := same20_any h13.obs.at_ ho3.kept.at_ (Nat.le_refl _); rw [sameO_of (HO2.out.ents.trans (HZ2.out.2.1.symm.trans ho3.ents.symm)) HZ2.out.2.2.1.symm (HO2.out.srvs.trans (HZ2.out.2.2.2.symm.trans ho3.srvs.symm))] at hsm; unfold ovArr at hsm hl4; have H13 := Lib.hid h13; clear ho3 h13)
          | (go_simp; go_at_call 12; refine hsm.mono ?_; clear hsm; rintro e w14 ⟨rfl, hb14⟩; have H14 := Lib.hid (H13.out.run.below hb14); clear hb14))
          all_goals go_wp2_with (fail)
          all_goals exact ⟨⟨k + 1, by omega, by omega, by go_num, _, _, H14.out⟩, by simp [intOf]; omega⟩
        · have HZ := Lib.hid hz
          clear hz
          go_wp2_with (first
          | (go_at_call 9; refine hse1.mono ?_; clear hse1; rintro e w4 ⟨A, n, c, es, A2, n2, c2, A3, n3, c3, us, rfl, ho⟩; have h5 := Seen20.new HRR.out ho; have HO1 := Lib.hid ho; have hld := HLD.out _ h5.run.bel; have hcp := copied_step h5.run HAK.out HSK.out; unfold ovArr at hld hcp; have H5 := Lib.hid h5; clear ho h5)
          | (go_at_call 11; refine hcp.mono ?_; clear hcp hld; rintro e w6 ⟨a', rfl, hb6, hd1⟩; have H6 := Lib.hid (H5.out.below hb6); clear hb6)
          | (go_at_call 10; refine hd1.mono ?_; clear hd1; intro e w7 hq; obtain ⟨rfl, h7⟩ := H6.out.did HSP.out hq; rw [HZ.out]; have hse2 := h7.run.seen; have H7 := Lib.hid h7; clear hq h7)
          | (go_at_call 9; refine hse2.mono ?_; clear hse2; rintro e w8 ⟨B1, m, d, fs, B2, m2, d2, B3, m3, d3, vs, rfl, ho2⟩; have h9 := Seen20.new H7.out.run ho2; have HO2 := Lib.hid ho2; have h9b := (H7.out.below ho2.bel).below (bel_new _ (.cells (ovArr ⟨B1, m, d, fs, B2, m2, d2, (doM s a.act).1.users, B3, m3, d3, vs⟩) 38)); have hl1 := h9b.load; have hl2 := h9.load; have hsm := same20_any h9b.obs.at_ h9.obs.at_ (Nat.le_refl _); rw [sameO_of (HO1.out.ents.trans ((HFA.out (by rw [HZ.out]; decide)).1.symm.trans ho2.ents.symm)) (HFA.out (by rw [HZ.out]; decide)).2.1.symm (HO1.out.srvs.trans ((HFA.out (by rw [HZ.out]; decide)).2.2.1.symm.trans ho2.srvs.symm))] at hsm; unfold ovArr at hl1 hl2 hsm; have H9 := Lib.hid h9; have H9b := Lib.hid h9b; clear ho2 h9 h9b)
          | (go_at_call 12; refine hsm.mono ?_; clear hsm; rintro e w10 ⟨rfl, hb10⟩; have H10 := Lib.hid (H9.out.run.below hb10); clear hb10))
          exact ⟨⟨k + 1, by omega, by omega, by go_num, _, _, H10.out⟩, by simp [intOf]; omega⟩
        · have HZ := Lib.hid hz
          clear hz
          go_wp2_with (first
          | (go_at_call 9; refine hse1.mono ?_; clear hse1; rintro e w4 ⟨A, n, c, es, A2, n2, c2, A3, n3, c3, us, rfl, ho⟩; have h5 := Seen20.new HRR.out ho; have HO1 := Lib.hid ho; have hld := HLD.out _ h5.run.bel; have hcp := copied_step h5.run HAK.out HSK.out; unfold ovArr at hld hcp; have H5 := Lib.hid h5; clear ho h5)
          | (go_at_call 11; refine hcp.mono ?_; clear hcp hld; rintro e w6 ⟨a', rfl, hb6, hd1⟩; have H6 := Lib.hid (H5.out.below hb6); clear hb6)
          | (go_at_call 10; refine hd1.mono ?_; clear hd1; intro e w7 hq; obtain ⟨rfl, h7⟩ := H6.out.did HSP.out hq; rw [HZ.out]; have hse2 := h7.run.seen; have H7 := Lib.hid h7; clear hq h7)
          | (go_at_call 9; refine hse2.mono ?_; clear hse2; rintro e w8 ⟨B1, m, d, fs, B2, m2, d2, B3, m3, d3, vs, rfl, ho2⟩; have h9 := Seen20.new H7.out.run ho2; have HO2 := Lib.hid ho2; have h9b := (H7.out.below ho2.bel).below (bel_new _ (.cells (ovArr ⟨B1, m, d, fs, B2, m2, d2, (doM s a.act).1.users, B3, m3, d3, vs⟩) 38)); have hl1 := h9b.load; have hl2 := h9.load; have hsm := same20_any h9b.obs.at_ h9.obs.at_ (Nat.le_refl _); rw [sameO_of (HO1.out.ents.trans ((HFA.out (by rw [HZ.out]; decide)).1.symm.trans ho2.ents.symm)) (HFA.out (by rw [HZ.out]; decide)).2.1.symm (HO1.out.srvs.trans ((HFA.out (by rw [HZ.out]; decide)).2.2.1.symm.trans ho2.srvs.symm))] at hsm; unfold ovArr at hl1 hl2 hsm; have H9 := Lib.hid h9; have H9b := Lib.hid h9b; clear ho2 h9 h9b)
          | (go_at_call 12; refine hsm.mono ?_; clear hsm; rintro e w10 ⟨rfl, hb10⟩; have H10 := Lib.hid (H9.out.run.below hb10); clear hb10))
          exact ⟨⟨k + 1, by omega, by omega, by go_num, _, _, H10.out⟩, by simp [intOf]; omega⟩
      · obtain rfl : k = 100 := by omega
        have hlt4 : ((100 : Nat) : Int) < (n' : Int) := by omega
        go_wp2_with (fail)
        go_ret
        exact ⟨rfl, HRR.out.bel⟩
    · obtain rfl : k = n' := by omega
      go_wp2_with (fail)
      go_ret
      exact ⟨rfl, HRR.out.bel⟩
end
end Go.Proofs.YtibndaianhlcaaaDoor
namespace Go.Proofs.YtibndaianhlcaaaDoor
open Go.RowKit
set_option linter.unusedVariables false
set_option linter.unusedSimpArgs false

def lettersL : List UInt8 := [97, 98, 99, 100, 101, 102, 103, 104, 105, 106, 107, 108, 109, 110, 111, 112, 113, 114, 115, 116, 117, 118, 119, 120, 121, 122, 65, 66, 67, 68, 69, 70, 71, 72, 73, 74, 75, 76, 77, 78, 79, 80, 81, 82, 83, 84, 85, 86, 87, 88, 89, 90, 48, 49, 50, 51, 52, 53, 54, 55, 56, 57, 46, 95, 45, 43]
theorem letters_iff (c : UInt8) : lettersL.contains c = letterB c := by
  have key : ∀ n : Fin 256, lettersL.contains (UInt8.ofNat n.1) = letterB (UInt8.ofNat n.1) := by decide +kernel
  have := key ⟨c.toNat, u8_lt c⟩
  simpa using this
theorem letters_len : lettersL.length = 66 := rfl
def hasL (c : UInt8) (j : Nat) : Bool := (lettersL.take j).contains c
theorem hasL_succ (c : UInt8) (j : Nat) (h : j < 66) : hasL c (j + 1) = (hasL c j || lettersL[j]'(by rw [letters_len]; exact h) == c) := by
  unfold hasL
  rw [List.take_succ_eq_append_getElem (by rw [letters_len]; exact h)]
  simp only [List.contains_eq_any_beq, List.any_append, List.any_cons, List.any_nil, Bool.or_false]
  congr 1
  exact Bool.beq_comm
theorem hasL_all (c : UInt8) : hasL c 66 = letterB c := by rw [← letters_iff]; rfl

theorem byte_cmp (a c : UInt8) : ((a.toNat : Int) == (c.toNat : Int)) = (a == c) := by
  rw [Bool.eq_iff_iff]
  simp only [beq_iff_eq]
  rw [← UInt8.toNat_inj]
  omega
theorem lets_cmp (c : UInt8) (j : Nat) (h : j < 66) (h' : j < (ByteArray.mk #[97, 98, 99, 100, 101, 102, 103, 104, 105, 106, 107, 108, 109, 110, 111, 112, 113, 114, 115, 116, 117, 118, 119, 120, 121, 122, 65, 66, 67, 68, 69, 70, 71, 72, 73, 74, 75, 76, 77, 78, 79, 80, 81, 82, 83, 84, 85, 86, 87, 88, 89, 90, 48, 49, 50, 51, 52, 53, 54, 55, 56, 57, 46, 95, 45, 43]).size) : (((ByteArray.mk #[97, 98, 99, 100, 101, 102, 103, 104, 105, 106, 107, 108, 109, 110, 111, 112, 113, 114, 115, 116, 117, 118, 119, 120, 121, 122, 65, 66, 67, 68, 69, 70, 71, 72, 73, 74, 75, 76, 77, 78, 79, 80, 81, 82, 83, 84, 85, 86, 87, 88, 89, 90, 48, 49, 50, 51, 52, 53, 54, 55, 56, 57, 46, 95, 45, 43])[j].toNat : Int) == (c.toNat : Int)) = (false || lettersL[j]'(by rw [letters_len]; exact h) == c) := by
  rw [byte_cmp, Bool.false_or]
  rfl

set_option maxRecDepth 100000 in
set_option maxHeartbeats 1000000 in
theorem refName_any (s : ByteArray) (w : World) (hs : s.size ≤ maxLen) :
    Calls Tryd.prog 30 #[.string s] w fun e w' => e = .returned (.bool (nameB s.data.toList)) ∧ Below w.heap.size w w' := by
  have hsz : s.data.toList.length = s.size := by rw [Array.length_toList]; rfl
  have ht : s.toList = s.data.toList := Go.ByteArray.toList_eq s
  have hget : ∀ k (h : k < s.size), s.data.toList[k]? = some s[k] := fun k h => by
    rw [List.getElem?_eq_getElem (by rw [hsz]; exact h)]
    rfl
  generalize hl : s.data.toList = l at *
  clear hl
  have hN : ¬ (l ≠ [] ∧ l.length ≤ 36 ∧ l ≠ [46] ∧ l ≠ [46, 46]) → nameB l = false := fun h => by unfold nameB; rw [decide_eq_false h]; rfl
  by_cases hlong : 36 < s.size
  · have H := Lib.hid (hN (by omega))
    clear hN hsz hget
    go_enter Tryd.func30, Tryd.ntmps30
    go_wp2
    go_ret
    exact ⟨by rw [H.out]; rfl, Below.refl _ _⟩
  by_cases h0 : l = []
  · have H := Lib.hid (hN (fun h => h.1 h0))
    subst h0
    have hz : s.size = 0 := by simpa using hsz.symm
    clear hN hsz hget
    go_enter Tryd.func30, Tryd.ntmps30
    go_wp2
    go_ret
    exact ⟨by rw [H.out]; rfl, Below.refl _ _⟩
  by_cases h1 : l = [46]
  · have H := Lib.hid (hN (fun h => h.2.2.1 h1))
    subst h1
    have hle : s.size = 1 := by simpa using hsz.symm
    clear hN hsz hget
    go_enter Tryd.func30, Tryd.ntmps30
    go_wp2
    go_ret
    exact ⟨by rw [H.out]; rfl, Below.refl _ _⟩
  by_cases h2 : l = [46, 46]
  · have H := Lib.hid (hN (fun h => h.2.2.2 h2))
    subst h2
    have hle : s.size = 2 := by simpa using hsz.symm
    clear hN hsz hget
    go_enter Tryd.func30, Tryd.ntmps30
    go_wp2
    go_ret
    exact ⟨by rw [H.out]; rfl, Below.refl _ _⟩
  have hpos : 0 < s.size := by rw [← hsz]; cases l with | nil => exact absurd rfl h0 | cons => simp
  have h1' : (l == [46]) = false := by simpa using h1
  have h2' : (l == [46, 46]) = false := by simpa using h2
  have hle : s.size ≤ 36 := by omega
  have hYES := Lib.hid (fun h => nameB_of (l := l) h0 (by omega) h1 h2 h)
  have hNO := Lib.hid (fun k hk h => nameB_not (l := l) k hk h)
  have HZ := Lib.hid hsz
  have HG := Lib.hid hget
  clear hN hsz hlong hget h0 h1 h2
  go_enter Tryd.func30, Tryd.ntmps30
  go_wp2
  go_loopw [3] (fun i wr => ∃ k : Nat, k ≤ s.size ∧ i = .int .i64 (k : Int) ∧ Aside ((l.take k).all letterB = true) ∧ Aside (Below w.heap.size w wr)) (fun i _ => s.size - (intOf i).toNat)
  case atStart => exact ⟨0, by omega, rfl, rfl, Below.refl _ _⟩
  case round =>
    obtain ⟨k, hk, rfl, hv, hb⟩ := hrel
    by_cases hlt : k < s.size
    · have hlk : k < l.length := by have := HZ.out; omega
      have HT := Lib.hid (show (l.take (k + 1)).all letterB = letterB l[k] by rw [List.take_succ_eq_append_getElem hlk, List.all_append, hv.out]; simp)
      have HK := Lib.hid (fun h => hNO.out k hlk h)
      have HGK := Lib.hid (show s[k] = l[k] from by have := HG.out k hlt; rw [List.getElem?_eq_getElem hlk] at this; exact (Option.some.inj this).symm)
      obtain ⟨wo, rfl⟩ : ∃ wo : World, wo = wr := ⟨_, rfl⟩
      go_wp2
      go_loopw [4, 5] (fun d i wr => ∃ j : Nat, j ≤ 66 ∧ i = .int .i64 (j : Int) ∧ d = .bool (hasL s[k] j) ∧ Aside (Below w.heap.size w wr)) (fun _ i _ => 66 - (intOf i).toNat)
      case atStart => exact ⟨0, by omega, rfl, rfl, hb.out⟩
      case round =>
        obtain ⟨j, hj, rfl, rfl, hb2⟩ := hrel
        by_cases hj66 : j < 66
        · have HS := Lib.hid (hasL_succ s[k] j hj66)
          cases ho : hasL s[k] j with
          | true =>
            rw [ho] at HS
            clear ho
            go_wp2
            go_quiet (fail)
            go_wp2
            exact ⟨⟨j + 1, by omega, by go_num, by rw [HS.out]; rfl, ⟨hb2.out.os, hb2.out.tape, hb2.out.output, hb2.out.size, hb2.out.block⟩⟩, by simp [intOf]; omega⟩
          | false =>
            rw [ho] at HS
            clear ho
            go_wp2
            go_quiet (fail)
            go_wp2
            exact ⟨⟨j + 1, by omega, by go_num, by rw [HS.out, lets_cmp _ j hj66], ⟨hb2.out.os, hb2.out.tape, hb2.out.output, hb2.out.size, hb2.out.block⟩⟩, by simp [intOf]; omega⟩
        · obtain rfl : j = 66 := by omega
          rw [hasL_all, HGK.out]
          cases hlet : letterB l[k] with
          | true =>
            have H3 := Lib.hid (HT.out.trans hlet)
            clear hlet
            go_wp2
            exact ⟨⟨k + 1, by omega, by go_num, H3.out, hb2.out⟩, by simp [intOf]; omega⟩
          | false =>
            have H3 := Lib.hid (HK.out hlet)
            clear hlet
            go_wp2
            go_ret
            exact ⟨by rw [H3.out]; rfl, hb2.out⟩
    · have HY := Lib.hid (hYES.out (by rw [show l.length = k by have := HZ.out; omega]; exact hv.out))
      go_wp2
      go_ret
      exact ⟨by rw [HY.out]; rfl, hb.out⟩

end Go.Proofs.YtibndaianhlcaaaDoor
