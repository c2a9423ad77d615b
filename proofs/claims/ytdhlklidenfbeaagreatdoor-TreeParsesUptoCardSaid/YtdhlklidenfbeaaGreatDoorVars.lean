/- What the row's premises say of the library's variables: internal/bytealg.MaxLen, strconv's two errors, the table of tens. -/
import Derived.Test.YtdhlklidenfbeaaGreatDoorParseEH
import Derived.Test.YtdhlklidenfbeaaGreatDoorTab
import Derived.Test.YtdhlklidenfbeaaGreatDoorBulk
import Derived.Test.YtdhlklidenfbeaaGreatDoorArgs
import Derived.Shelf.Vars
import Derived.LaidLaws
import Derived.LaidSub
import Derived.MakeChecks
namespace Go.Proofs.YtdhlklidenfbeaaGreatDoor
open Go.RowKit Go.ChangeShapes Go.WideShapes
set_option linter.unusedVariables false
set_option linter.unusedSimpArgs false

theorem g_pow : Tryz.prog.globalNamed "internal/strconv.uint64pow10" = some 4 := by kernel_rfl
theorem g_syn : Tryz.prog.globalNamed "strconv.ErrSyntax" = some 2 := by kernel_rfl
theorem g_ran : Tryz.prog.globalNamed "strconv.ErrRange" = some 3 := by kernel_rfl
set_option maxRecDepth 100000 in
theorem pow_tab {l : List (String × DataW Unit)} {W : World} (hl : l.filter (fun x => x.1 == "internal/strconv.uint64pow10") = [("internal/strconv.uint64pow10", Lib.tabData .u64 Lib.pow10Tab)]) (h : laidMetH Tryz.prog l W) : TabOk W := by
  have h1 := h.filter (fun x => x.1 == "internal/strconv.uint64pow10")
  rw [hl, MakeChecks.laidMetH_plain _ _ _ (by kernel_rfl)] at h1
  exact tab_ok g_pow (Lib.tabIs_of_head (rest := []) g_pow (by kernel_rfl) Tryz.underlying162 Tryz.underlying97 (by kernel_rfl) (by kernel_rfl) h1)
theorem iface_laid {W : World} {name nm : String} {d : DataW Unit} {g : Nat} {ti : TypeId} {ms : Array (String × TypeId)} (hg : Tryz.prog.globalNamed name = some g) (hty : (Tryz.prog.globals[g]?).map (·.type) = some ti)
    (hi : Tryz.prog.underlying ti = some (.interface ms)) (h : laidMet Tryz.prog [(name, .iface nm d)] W) : ∃ v, W.cell? ⟨g, 0, none⟩ = some v ∧ Iface v := by
  obtain ⟨ps, ⟨g', t', cs, fuel, p, q, hg', ht', hvar, hd, _, _⟩, _⟩ := h
  obtain rfl := Option.some.inj (hg.symm.trans hg')
  obtain rfl := Option.some.inj (hty.symm.trans ht')
  obtain ⟨_, u, v, hcs, _, _⟩ := iface_of_trod hi hd
  have h0 := World.var?_cell hg hvar 0
  have h1 : cs[0]? = some (.iface u v) := by rw [← Array.getElem?_toList, hcs]; rfl
  exact ⟨_, h0.trans h1, .inr ⟨u, v, rfl⟩⟩
theorem iface_later {W w' : World} {g : Nat} (h : ∃ v, W.cell? ⟨g, 0, none⟩ = some v ∧ Iface v) (hb : Below W.heap.size W w') : ∃ v, w'.cell? ⟨g, 0, none⟩ = some v ∧ Iface v := by
  obtain ⟨v, hv, hi⟩ := h
  exact ⟨v, (hb.cell (p := ⟨g, 0, none⟩) (World.block_lt_of_cell? _ _ hv)).trans hv, hi⟩
set_option maxRecDepth 100000 in
theorem atoi_vars0 {l : List (String × DataW Unit)} {W : World} {n1 n2 : String} {d1 d2 : DataW Unit} (h1 : l.filter (fun x => x.1 == "strconv.ErrSyntax") = [("strconv.ErrSyntax", .iface n1 d1)])
    (h2 : l.filter (fun x => x.1 == "strconv.ErrRange") = [("strconv.ErrRange", .iface n2 d2)]) (hh1 : ([(("strconv.ErrSyntax" : String), (.iface n1 d1 : DataW Unit))].all fun x => x.2.handleName?.isNone) = true) (hh2 : ([(("strconv.ErrRange" : String), (.iface n2 d2 : DataW Unit))].all fun x => x.2.handleName?.isNone) = true)
    (h : laidMetH Tryz.prog l W) : AtoiOk W := by
  have k1 := h.filter (fun x => x.1 == "strconv.ErrSyntax")
  have k2 := h.filter (fun x => x.1 == "strconv.ErrRange")
  rw [h1, MakeChecks.laidMetH_plain _ _ _ hh1] at k1
  rw [h2, MakeChecks.laidMetH_plain _ _ _ hh2] at k2
  have i1 := iface_laid g_syn (by kernel_rfl) Tryz.underlying55 k1
  have i2 := iface_laid g_ran (by kernel_rfl) Tryz.underlying55 k2
  exact ⟨fun w' hb => iface_later i1 hb, fun w' hb => iface_later i2 hb⟩
theorem atoi_vars {l : List (String × DataW Unit)} {W : World} (h1 : l.filter (fun x => x.1 == "strconv.ErrSyntax") = [("strconv.ErrSyntax", .iface "*errors.errorString" (.ptr (.agg [.lit (.string [105, 110, 118, 97, 108, 105, 100, 32, 115, 121, 110, 116, 97, 120])])))])
    (h2 : l.filter (fun x => x.1 == "strconv.ErrRange") = [("strconv.ErrRange", .iface "*errors.errorString" (.ptr (.agg [.lit (.string [118, 97, 108, 117, 101, 32, 111, 117, 116, 32, 111, 102, 32, 114, 97, 110, 103, 101])])))]) (h : laidMetH Tryz.prog l W) : AtoiOk W :=
  atoi_vars0 h1 h2 (by kernel_rfl) (by kernel_rfl) h
set_option maxRecDepth 100000 in
theorem max_var {W : World} (h : W.ShapedOpen Tryz.prog) : MaxOk W := by
  obtain ⟨m, hm⟩ := cell_of_shapedOpen_int (P := Tryz.prog) (g := 1) (t := 3) (zero := #[.int .i64 0]) (k := .i64) h (of_decide_eq_true (by kernel_rfl)) (by kernel_rfl) rfl (by kernel_rfl) (by kernel_rfl) Tryz.underlying3
  exact ⟨fun w' hb => ⟨m, (hb.cell (p := ⟨1, 0, none⟩) (World.block_lt_of_cell? _ _ hm)).trans hm⟩⟩

set_option maxRecDepth 100000 in
/-- A []byte that came in, as a text. -/
theorem open_text {H : Type} {enc : TypeId × Value → H} {W : World} {base : Nat} {v : Value} {d : DataW H} {p : List MemPlace}
    (o : Value.okWide Tryz.prog W .any base 32 v) (k : DataW.Trod enc Tryz.prog W 0 (fun _ => true) true 32 v d p) (hb : Rows.uptoBulk d ≤ 1048576) :
    ∃ A n c, ∃ l : List UInt8, v = .slice A n c ∧ TextIn W W.heap.size A n c l ∧ n ≤ 1048576 := by
  have h := open_bytes o k
  obtain ⟨A, n, c, l, rfl, hS, hn⟩ := h
  refine ⟨A, n, c, l, rfl, ⟨hS, fun hA => ?_⟩, ?_⟩
  · subst hA
    obtain ⟨fuel, hf⟩ := k
    rcases open_ints Tryz.underlying32 Tryz.underlying5 (by kernel_rfl) hf with ⟨hcs, _⟩ | ⟨x, l, c, zs, hcs, _⟩
    · simp [Value.cells] at hcs
      exact hcs.2
    · simp [Value.cells] at hcs
  · rcases hn with rfl | ⟨elems, spare, rfl, h⟩
    · omega
    · have := Bulk.slice_spare elems spare
      omega
end Go.Proofs.YtdhlklidenfbeaaGreatDoor
