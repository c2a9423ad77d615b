/- The walk of boot.Text. -/
import Derived.Test.YtdhlklidenfbeaaGreatDoorBootD
import Derived.Test.YtdhlklidenfbeaaGreatDoorBuild
import Derived.Test.YtdhlklidenfbeaaGreatDoorItoa
import Derived.Deep.RegionHeld3
namespace Go.Proofs.YtdhlklidenfbeaaGreatDoor
open Go.RowKit Go.Sort
set_option linter.unusedVariables false
set_option linter.unusedSimpArgs false

def lineT (word : Txt) (n : Int) : Txt := word ++ Lib.itoa n ++ [10]
def genT (g : Gen) : Txt := [103, 101, 110, 32] ++ Lib.itoa g.num ++ [32] ++ g.path ++ [10]
def lastW : Txt := [108, 97, 115, 116, 32]
def defaultW : Txt := [100, 101, 102, 97, 117, 108, 116, 32]
def nextW : Txt := [110, 101, 120, 116, 32]
def trialW : Txt := [116, 114, 105, 97, 108, 32]
/-- A menu's text up to a line. -/
def headT (m : Menu) : Nat → Txt
  | 0 => [109, 101, 110, 117, 10]
  | 1 => [109, 101, 110, 117, 10] ++ lineT lastW m.last
  | 2 => [109, 101, 110, 117, 10] ++ lineT lastW m.last ++ lineT defaultW m.def_
  | 3 => [109, 101, 110, 117, 10] ++ lineT lastW m.last ++ lineT defaultW m.def_ ++ lineT nextW m.next
  | _ => [109, 101, 110, 117, 10] ++ lineT lastW m.last ++ lineT defaultW m.def_ ++ lineT nextW m.next ++ lineT trialW m.trial
def gensT (m : Menu) (k : Nat) : Txt := headT m 4 ++ (m.gens.take k).flatMap genT
def textM (m : Menu) : Txt := if menuB m = true then gensT m m.gens.length ++ [101, 110, 100, 10] else []
theorem gensT_zero (m : Menu) : gensT m 0 = headT m 4 := by simp [gensT]
theorem gensT_succ (m : Menu) (k : Nat) (h : k < m.gens.length) : gensT m (k + 1) = gensT m k ++ genT m.gens[k] := by
  unfold gensT
  rw [List.take_succ_eq_append_getElem h, List.flatMap_append, ← List.append_assoc]
  simp

structure ItoaMenu (w : World) (m : Menu) : Prop where
  last : ItoaOk w m.last
  def_ : ItoaOk w m.def_
  next : ItoaOk w m.next
  trial : ItoaOk w m.trial
  gens : ∀ g ∈ m.gens, ItoaOk w g.num

theorem ws_txt (B b : Nat) (l t : Txt) (s : ByteArray) (hs : s.data.toList = t) (w : World) (h : Lib.IsBuilderF 53 5 B b (Lib.byteCells l) w) (hlen : l.length + t.length ≤ 140737488355328) (hBw : B ≤ w.heap.size) :
    Calls Tryz.prog 26 #[.pointer (some ⟨b, 0, none⟩), .string s] w fun e w' => e = .returned (.tuple #[.int .i64 s.size, .nilIface]) ∧ Lib.IsBuilderF 53 5 B b (Lib.byteCells (l ++ t)) w' ∧ Below B w w' ∧ Lib.OthersKept 5 (some b) w w' := by
  have hsz : s.size = t.length := by rw [← hs]; rfl
  refine (ws_any B b (Lib.byteCells l) s w h (by rw [Lib.byteCells_length]; omega) hBw).mono ?_
  rintro e w' ⟨rfl, h1, h2, h3⟩
  refine ⟨rfl, ?_, h2, h3⟩
  rw [Lib.strCells_eq, hs, ← Lib.byteCells_append] at h1
  exact h1
theorem builder_new (w : World) (B : Nat) (hB : B ≤ w.heap.size) : Lib.IsBuilderF 53 5 B w.heap.size (Lib.byteCells []) (w.alloc (.cells #[.pointer none, .slice none 0 0] 53)) :=
  .inl ⟨hB, .slice none 0 0, Blk.new _ _ _, World.ownsRowF_nil _ _ _ _, by simp [Value.ownBlock]⟩
theorem builder_below {w w' : World} {B b : Nat} {bs : List Value} (h : Lib.IsBuilderF 53 5 B b bs w) (hb : Below w.heap.size w w') : Lib.IsBuilderF 53 5 B b bs w' := by
  have key : ∀ p, Lib.BuilderAtF 53 5 B b p bs w → Lib.BuilderAtF 53 5 B b p bs w' := fun p hp => by
    have hlt := hp.lt
    obtain ⟨hB, v, hbk, hown, hne⟩ := hp
    refine ⟨hB, v, (hb.block b hlt).trans hbk, hown.kept (row := none) ⟨hb.os, hb.tape, hb.output, hb.size, fun k hk _ => hb.block k hk⟩ ?_, hne⟩
    rcases hv : v.ownBlock with _ | k
    · exact .inl rfl
    · exact .inr (by simp)
  exact h.elim (fun x => .inl (key _ x)) (fun x => .inr (key _ x))

theorem index4_0 (x y z u : Int) (w : World) : Sem.run Tryz.prog (Instr.index 58 (.agg #[.int .i64 x, .int .i64 y, .int .i64 z, .int .i64 u]) (.int .i64 0)) w = .ok (.int .i64 x) w := by kernel_rfl
theorem index4_1 (x y z u : Int) (w : World) : Sem.run Tryz.prog (Instr.index 58 (.agg #[.int .i64 x, .int .i64 y, .int .i64 z, .int .i64 u]) (.int .i64 1)) w = .ok (.int .i64 y) w := by kernel_rfl
theorem index4_2 (x y z u : Int) (w : World) : Sem.run Tryz.prog (Instr.index 58 (.agg #[.int .i64 x, .int .i64 y, .int .i64 z, .int .i64 u]) (.int .i64 2)) w = .ok (.int .i64 z) w := by kernel_rfl
theorem index4_3 (x y z u : Int) (w : World) : Sem.run Tryz.prog (Instr.index 58 (.agg #[.int .i64 x, .int .i64 y, .int .i64 z, .int .i64 u]) (.int .i64 3)) w = .ok (.int .i64 u) w := by kernel_rfl

def wordsC : Array Value := #[.string ⟨#[108, 97, 115, 116, 32]⟩, .string ⟨#[100, 101, 102, 97, 117, 108, 116, 32]⟩, .string ⟨#[110, 101, 120, 116, 32]⟩, .string ⟨#[116, 114, 105, 97, 108, 32]⟩]
theorem words_facts {w : World} {g : Nat} (h : Blk w g 50 wordsC) :
    w.cell? ⟨g, 0, none⟩ = some (.string ⟨#[108, 97, 115, 116, 32]⟩) ∧ w.cell? ⟨g, 1, none⟩ = some (.string ⟨#[100, 101, 102, 97, 117, 108, 116, 32]⟩) ∧ w.cell? ⟨g, 2, none⟩ = some (.string ⟨#[110, 101, 120, 116, 32]⟩) ∧ w.cell? ⟨g, 3, none⟩ = some (.string ⟨#[116, 114, 105, 97, 108, 32]⟩) ∧ (∀ i, w.frozen? ⟨g, i, none⟩ = false) :=
  ⟨h.cell 0, h.cell 1, h.cell 2, h.cell 3, h.frozen⟩

theorem lineT_length (m : Menu) (w : World) (hi : ItoaMenu w m) : ∀ j, (headT m j).length ≤ 5000 := by
  have h0 := hi.last.short
  have h1 := hi.def_.short
  have h2 := hi.next.short
  have h3 := hi.trial.short
  intro j
  match j with
  | 0 => simp [headT]
  | 1 => simp [headT, lineT, lastW]; omega
  | 2 => simp [headT, lineT, lastW, defaultW]; omega
  | 3 => simp [headT, lineT, lastW, defaultW, nextW]; omega
  | j + 4 => simp [headT, lineT, lastW, defaultW, nextW, trialW]; omega
theorem genT_length {w : World} {g : Gen} (h : ItoaOk w g.num) (hp : g.path.length ≤ 1000000000) : (genT g).length ≤ 1000002000 := by
  have := h.short
  simp only [genT, List.length_append, List.length_cons, List.length_nil]
  omega
theorem gen_flat_length (l : List Gen) (h : ∀ g ∈ l, (genT g).length ≤ 1000002000) : (l.flatMap genT).length ≤ l.length * 1000002000 := by
  induction l with
  | nil => simp
  | cons g l ih =>
    have h1 := h g (List.mem_cons_self ..)
    have h2 := ih (fun x hx => h x (List.mem_cons_of_mem _ hx))
    rw [List.flatMap_cons, List.length_append, List.length_cons]
    omega
theorem gensT_length (m : Menu) (w : World) (hi : ItoaMenu w m) (hpl : ∀ g ∈ m.gens, g.path.length ≤ 1000000000) (h16 : m.gens.length ≤ 16) (k : Nat) : (gensT m k).length ≤ 20000000000 := by
  unfold gensT
  rw [List.length_append]
  have h1 := lineT_length m w hi 4
  have h2 := gen_flat_length (m.gens.take k) (fun g hg => genT_length (hi.gens g (List.mem_of_mem_take hg)) (hpl g (List.mem_of_mem_take hg)))
  have h3 : (m.gens.take k).length ≤ 16 := Nat.le_trans (List.length_take_le' ..) h16
  omega
end Go.Proofs.YtdhlklidenfbeaaGreatDoor
