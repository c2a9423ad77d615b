/- What the row's premises say of the library's variables: internal/bytealg.MaxLen, strconv's two errors, the table of tens; strconv.Atoi. -/
import Derived.Test.YtdhlklidenfbeaaGreatDoorLayP
import Derived.Test.YtdhlklidenfbeaaGreatDoorTab
import Derived.Test.YtdhlklidenfbeaaGreatDoorTreeP
import Derived.Shelf.Vars
import Derived.LaidLaws
import Derived.LaidSub
import Derived.MakeChecks
import Derived.Lib.AtoiTie
namespace Go.Proofs.YtdhlklidenfbeaaGreatDoor
open Go.RowKit Go.ChangeShapes Go.WideShapes
set_option linter.unusedVariables false
set_option linter.unusedSimpArgs false

/-- What the globals hold, now and later: internal/bytealg.MaxLen some number. -/
structure MaxOk (w : World) : Prop where
  max : ∀ w', Below w.heap.size w w' → ∃ m, w'.cell? ⟨1, 0, none⟩ = some (.int .i64 m)
theorem MaxOk.below {w w' : World} (h : MaxOk w) (hb : Below w.heap.size w w') : MaxOk w' := ⟨fun v hv => h.max v (hb.trans (hv.mono hb.size))⟩
theorem MaxOk.now {w : World} (h : MaxOk w) : ∃ m, w.cell? ⟨1, 0, none⟩ = some (.int .i64 m) := h.max w (Below.refl _ w)

def Iface (v : Value) : Prop := v = .nilIface ∨ ∃ te pe, v = .iface te pe
/-- What the globals hold, now and later: strconv.ErrSyntax and ErrRange some error each. -/
structure AtoiOk (w : World) : Prop where
  syn : ∀ w', Below w.heap.size w w' → ∃ v, w'.cell? ⟨2, 0, none⟩ = some v ∧ Iface v
  ran : ∀ w', Below w.heap.size w w' → ∃ v, w'.cell? ⟨3, 0, none⟩ = some v ∧ Iface v
theorem AtoiOk.below {w w' : World} (h : AtoiOk w) (hb : Below w.heap.size w w') : AtoiOk w' := ⟨fun v hv => h.syn v (hb.trans (hv.mono hb.size)), fun v hv => h.ran v (hb.trans (hv.mono hb.size))⟩

def AtoiPost (w : World) (q : Txt) : Ending → World → Prop := fun e w' => Below w.heap.size w w' ∧ ∃ v err, e = .returned (.tuple #[.int .i64 v, err]) ∧
  ((err = .nilIface ∧ Lib.atoiAll q = .ok v) ∨ ((∃ N, err = .iface 125 (.pointer (some ⟨N, 0, none⟩))) ∧ ∀ u, Lib.atoiAll q ≠ .ok u))
theorem atoi_any (w : World) (q : Txt) (hq : q.length ≤ 100000000) (hm : AtoiOk w) : Calls Tryz.prog 36 #[.string ⟨q.toArray⟩] w (AtoiPost w q) := by
  have hsz : (ByteArray.mk q.toArray).size = q.length := rfl
  rcases hc : Lib.atoiAll q with v | _ | _
  ·
    refine (Tryz.strconv_Atoi_ok ⟨q.toArray⟩ (by omega) v hc w).mono ?_
    rintro e w' ⟨rfl, hw⟩
    refine ⟨?_, v, .nilIface, rfl, .inl ⟨rfl, hc⟩⟩
    rcases hw with rfl | ⟨t, rfl⟩
    · exact Below.refl _ _
    · exact Lib.bytesWorld_below _ _ _
  ·
    obtain ⟨ev, h1, h2⟩ := hm.syn w (Below.refl _ w)
    refine (Tryz.strconv_Atoi_syntax ⟨q.toArray⟩ (by omega) (fun v e => by have e2 := hc.symm.trans e; cases e2) (fun e => by have e2 := hc.symm.trans e; cases e2) ev w h1 h2).mono ?_
    rintro e w' ⟨N, rfl, _, _, hb⟩
    exact ⟨hb, _, _, rfl, .inr ⟨⟨N, rfl⟩, fun u hu => by rw [hc] at hu; cases hu⟩⟩
  ·
    obtain ⟨ev, h1, h2⟩ := hm.ran w (Below.refl _ w)
    refine (Tryz.strconv_Atoi_range ⟨q.toArray⟩ (by omega) hc ev w h1 h2).mono ?_
    rintro e w' ⟨N, rfl, _, _, hb⟩
    exact ⟨hb, _, _, rfl, .inr ⟨⟨N, rfl⟩, fun u hu => by rw [hc] at hu; cases hu⟩⟩
theorem g_pow : Tryz.prog.globalNamed "internal/strconv.uint64pow10" = some 4 := by kernel_rfl
theorem g_syn : Tryz.prog.globalNamed "strconv.ErrSyntax" = some 2 := by kernel_rfl
theorem g_ran : Tryz.prog.globalNamed "strconv.ErrRange" = some 3 := by kernel_rfl
set_option maxRecDepth 100000 in
theorem pow_tab {l : List (String × DataW Unit)} {W : World} (hl : l.filter (fun x => x.1 == "internal/strconv.uint64pow10") = [("internal/strconv.uint64pow10", Lib.tabData .u64 Lib.pow10Tab)]) (h : laidMetH Tryz.prog l W) : TabOk W := by
  have h1 := h.filter (fun x => x.1 == "internal/strconv.uint64pow10")
  rw [hl, MakeChecks.laidMetH_plain _ _ _ (by kernel_rfl)] at h1
  exact tab_ok g_pow (Lib.tabIs_of_head (rest := []) g_pow (by kernel_rfl) Tryz.underlying162 Tryz.underlying97 (by kernel_rfl) (by kernel_rfl) h1)
theorem iface_laid {W : World} {name nm : String} {d : DataW Unit} {g : Nat} {ti : TypeId} {ms : Array (String × TypeId)} (hg : Tryz.prog.globalNamed name = some g) (hty : (Tryz.prog.globals[g]?).map (·.type) = some ti)
    (hi : Tryz.prog.underlying ti = some (.interface ms)) (h : laidMet Tryz.prog [(name, .iface nm d)] W) : ∃ v, W.cell? ⟨g, 0, none⟩ = some v ∧ Iface v := by
  obtain ⟨ps, ⟨g', t', cs, fuel, p, q, hg', ht', hvar, hd, _, _⟩, _⟩ := h
  obtain rfl := Option.some.inj (hg.symm.trans hg')
  obtain rfl := Option.some.inj (hty.symm.trans ht')
  obtain ⟨_, u, v, hcs, _, _⟩ := iface_of_trod hi hd
  have h0 := World.var?_cell hg hvar 0
  have h1 : cs[0]? = some (.iface u v) := by rw [← Array.getElem?_toList, hcs]; rfl
  exact ⟨_, h0.trans h1, .inr ⟨u, v, rfl⟩⟩
theorem iface_later {W w' : World} {g : Nat} (h : ∃ v, W.cell? ⟨g, 0, none⟩ = some v ∧ Iface v) (hb : Below W.heap.size W w') : ∃ v, w'.cell? ⟨g, 0, none⟩ = some v ∧ Iface v := by
  obtain ⟨v, hv, hi⟩ := h
  exact ⟨v, (hb.cell (p := ⟨g, 0, none⟩) (World.block_lt_of_cell? _ _ hv)).trans hv, hi⟩
set_option maxRecDepth 100000 in
theorem atoi_vars0 {l : List (String × DataW Unit)} {W : World} {n1 n2 : String} {d1 d2 : DataW Unit} (h1 : l.filter (fun x => x.1 == "strconv.ErrSyntax") = [("strconv.ErrSyntax", .iface n1 d1)])
    (h2 : l.filter (fun x => x.1 == "strconv.ErrRange") = [("strconv.ErrRange", .iface n2 d2)]) (hh1 : ([(("strconv.ErrSyntax" : String), (.iface n1 d1 : DataW Unit))].all fun x => x.2.handleName?.isNone) = true) (hh2 : ([(("strconv.ErrRange" : String), (.iface n2 d2 : DataW Unit))].all fun x => x.2.handleName?.isNone) = true)
    (h : laidMetH Tryz.prog l W) : AtoiOk W := by
  have k1 := h.filter (fun x => x.1 == "strconv.ErrSyntax")
  have k2 := h.filter (fun x => x.1 == "strconv.ErrRange")
  rw [h1, MakeChecks.laidMetH_plain _ _ _ hh1] at k1
  rw [h2, MakeChecks.laidMetH_plain _ _ _ hh2] at k2
  have i1 := iface_laid g_syn (by kernel_rfl) Tryz.underlying55 k1
  have i2 := iface_laid g_ran (by kernel_rfl) Tryz.underlying55 k2
  exact ⟨fun w' hb => iface_later i1 hb, fun w' hb => iface_later i2 hb⟩
theorem atoi_vars {l : List (String × DataW Unit)} {W : World} (h1 : l.filter (fun x => x.1 == "strconv.ErrSyntax") = [("strconv.ErrSyntax", .iface "*errors.errorString" (.ptr (.agg [.lit (.string [105, 110, 118, 97, 108, 105, 100, 32, 115, 121, 110, 116, 97, 120])])))])
    (h2 : l.filter (fun x => x.1 == "strconv.ErrRange") = [("strconv.ErrRange", .iface "*errors.errorString" (.ptr (.agg [.lit (.string [118, 97, 108, 117, 101, 32, 111, 117, 116, 32, 111, 102, 32, 114, 97, 110, 103, 101])])))]) (h : laidMetH Tryz.prog l W) : AtoiOk W :=
  atoi_vars0 h1 h2 (by kernel_rfl) (by kernel_rfl) h
set_option maxRecDepth 100000 in
theorem max_var {W : World} (h : W.ShapedOpen Tryz.prog) : MaxOk W := by
  obtain ⟨m, hm⟩ := cell_of_shapedOpen_int (P := Tryz.prog) (g := 1) (t := 3) (zero := #[.int .i64 0]) (k := .i64) h (of_decide_eq_true (by kernel_rfl)) (by kernel_rfl) rfl (by kernel_rfl) (by kernel_rfl) Tryz.underlying3
  exact ⟨fun w' hb => ⟨m, (hb.cell (p := ⟨1, 0, none⟩) (World.block_lt_of_cell? _ _ hm)).trans hm⟩⟩

end Go.Proofs.YtdhlklidenfbeaaGreatDoor
