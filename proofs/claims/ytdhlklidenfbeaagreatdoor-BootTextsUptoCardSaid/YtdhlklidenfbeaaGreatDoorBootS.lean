/- Structs read and written whole, by their blocks. -/
import Derived.Test.YtdhlklidenfbeaaGreatDoorBootR
import Derived.Test.YtdhlklidenfbeaaGreatDoorMarks
namespace Go.Proofs.YtdhlklidenfbeaaGreatDoor
open Go.RowKit Go.Sort
set_option linter.unusedVariables false
set_option linter.unusedSimpArgs false

theorem StoreS.whole {P : Program} {w : World} {g : Nat} {ty t : TypeId} {cs vs : Array Value} (hb : Blk w g t cs) (hi : (P.info? ty).map (·.size) = some vs.size) (hc : cs.size = vs.size) (h1 : ∀ v ∈ vs.toList, v.oneCell' = true) :
    (StoreS ty (.pointer (some ⟨g, 0, none⟩)) (.agg vs)).run P w = .ok () (w.setRow g vs) := by
  rw [StoreS.of_blk hb hi (by omega) h1]
  congr 2
  apply Array.ext'
  have h2 : cs.toList.drop (0 + vs.toList.length) = [] := List.drop_eq_nil_of_le (by simp; omega)
  simp only [List.take_zero, List.nil_append, h2, List.append_nil]
theorem LoadS.whole {P : Program} {w : World} {g : Nat} {ty t : TypeId} {cs : Array Value} {d : TypeDesc} (hb : Blk w g t cs) (hu : P.underlying ty = some d) (hd : d.isRow = true) (hi : (P.info? ty).map (·.size) = some cs.size) :
    (LoadS ty (.pointer (some ⟨g, 0, none⟩))).run P w = .ok (.agg cs) w := by
  have := LoadS.of_blk (P := P) (o := 0) (n := cs.size) hb hu hd hi (by omega)
  rwa [show cs.extract 0 (0 + cs.size) = cs by simp] at this
theorem own_row {w : World} {base : Nat} {e : TypeId} {size : Nat} {v : Value} {n : Nat} {xs : List Value} (h : w.ownsRow base e size v n xs) {g : Nat} (hg : v.ownBlock ≠ some g) (cs : Array Value) : (w.setRow g cs).ownsRow base e size v n xs := by
  refine h.kept (row := some g) ⟨rfl, rfl, rfl, by simp [World.setRow], fun k hk hne => ?_⟩ (.inr hg)
  simp only [World.setRow, Array.getElem?_modify]
  rw [if_neg (fun e => hne (by rw [e]))]
theorem below_row {B : Nat} {a w : World} (h : Below B a w) {g : Nat} (hg : B ≤ g) (cs : Array Value) : Below B a (w.setRow g cs) :=
  ⟨h.os, h.tape, h.output, by simpa [World.setRow] using h.size, fun k hk => by
    simp only [World.setRow, Array.getElem?_modify]
    rw [if_neg (by omega)]; exact h.block k hk⟩

theorem i_menu : (Tryz.prog.info? 24).map (·.size) = some 5 := by kernel_rfl
theorem load_menu_mark (x : Value) : Instr.loadAt 24 x = LoadS 24 x := rfl
theorem store_menu_mark (x v : Value) : Instr.storeAt 24 x v = StoreS 24 x v := rfl
theorem load_menu {w : World} {g : Nat} {a b c d : Value} {s : Value} (h : Blk w g 24 #[a, b, c, d, s]) : (LoadS 24 (.pointer (some ⟨g, 0, none⟩))).run Tryz.prog w = .ok (.agg #[a, b, c, d, s]) w :=
  LoadS.whole h Tryz.underlying24 rfl i_menu
theorem store_menu {w : World} {g : Nat} {cs : Array Value} (h : Blk w g 24 cs) (hc : cs.size = 5) (a b c d : Int) (A : Option Addr) (n k : Nat) :
    (StoreS 24 (.pointer (some ⟨g, 0, none⟩)) (.agg #[.int .i64 a, .int .i64 b, .int .i64 c, .int .i64 d, .slice A n k])).run Tryz.prog w = .ok () (w.setRow g #[.int .i64 a, .int .i64 b, .int .i64 c, .int .i64 d, .slice A n k]) :=
  StoreS.whole h i_menu hc (fun v hv => by
    simp only [List.mem_cons, List.not_mem_nil, or_false] at hv
    rcases hv with rfl | rfl | rfl | rfl | rfl <;> rfl)
theorem res_menu2 {fn : Func} {t u : Tmp} {g : Nat} {cs : Array Value} {w : World} {tmps : Array Value} (h : fn.results = #[.cell t 24, .tmp u]) (ht : tmps.getD t undef = .pointer (some ⟨g, 0, none⟩)) (hb : Blk w g 24 cs) (hcs : cs.size = 5) :
    (results fn tmps).run Tryz.prog w = .ok (.tuple #[.agg cs, tmps.getD u undef]) w := results_agg2 h ht Tryz.isAgg24 Tryz.sizeOf24 hcs hb
theorem res_menu3 {fn : Func} {t u v : Tmp} {g : Nat} {cs : Array Value} {w : World} {tmps : Array Value} (h : fn.results = #[.cell t 24, .tmp u, .tmp v]) (ht : tmps.getD t undef = .pointer (some ⟨g, 0, none⟩)) (hb : Blk w g 24 cs) (hcs : cs.size = 5) :
    (results fn tmps).run Tryz.prog w = .ok (.tuple #[.agg cs, tmps.getD u undef, tmps.getD v undef]) w := results_agg3 h ht Tryz.isAgg24 Tryz.sizeOf24 hcs hb
end Go.Proofs.YtdhlklidenfbeaaGreatDoor
