/- The walk of the laws' 'shown' (layer 22). -/
import Derived.Test.YtdhlklidenfbeaaGreatDoorBootU
namespace Go.Proofs.YtdhlklidenfbeaaGreatDoor
open Go.RowKit Go.Sort
set_option linter.unusedVariables false
set_option linter.unusedSimpArgs false

theorem MenuGot.open_ {w w' : World} {m : Menu} {v : Value} (h : MenuGot w w' m v) : ∃ A n c, v = menuV m A n c ∧ GensAt w' w'.heap.size A n c m.gens ∧ Below w.heap.size w w' := by
  obtain ⟨A, n, c, e, ho, hb⟩ := h
  exact ⟨A, n, c, e, own_gens ho, hb⟩
def mnCells (m : Menu) (A : Option Addr) (n c : Nat) : Array Value := #[.int .i64 m.last, .int .i64 m.def_, .int .i64 m.next, .int .i64 m.trial, .slice A n c]
def MenuBlk (w : World) (g : Nat) (m : Menu) (A : Option Addr) (n c : Nat) : Prop := Blk w g 24 (mnCells m A n c)
theorem MenuBlk.load {w : World} {g : Nat} {m : Menu} {A : Option Addr} {n c : Nat} (h : MenuBlk w g m A n c) : (LoadS 24 (.pointer (some ⟨g, 0, none⟩))).run Tryz.prog w = .ok (menuV m A n c) w := load_menu h
theorem MenuBlk.store {w : World} {g : Nat} {cs : Array Value} (h : Blk w g 24 cs) (hc : cs.size = 5) (m : Menu) (A : Option Addr) (n c : Nat) :
    (StoreS 24 (.pointer (some ⟨g, 0, none⟩)) (menuV m A n c)).run Tryz.prog w = .ok () (w.setRow g (mnCells m A n c)) ∧ MenuBlk (w.setRow g (mnCells m A n c)) g m A n c :=
  ⟨store_menu h hc _ _ _ _ _ _ _, h.row _⟩
theorem MenuBlk.below {w w' : World} {B g : Nat} {m : Menu} {A : Option Addr} {n c : Nat} (h : MenuBlk w g m A n c) (hb : Below B w w') (hg : g < B) : MenuBlk w' g m A n c := Blk.below h hb hg
theorem MenuBlk.lt {w : World} {g : Nat} {m : Menu} {A : Option Addr} {n c : Nat} (h : MenuBlk w g m A n c) : g < w.heap.size := Blk.lt h
/-- A new variable that is given a menu. -/
theorem new_menu (w : World) (m : Menu) (A : Option Addr) (n c : Nat) :
    (StoreS 24 (.pointer (some ⟨w.heap.size, 0, none⟩)) (menuV m A n c)).run Tryz.prog (w.alloc (.cells #[.int .i64 0, .int .i64 0, .int .i64 0, .int .i64 0, .slice none 0 0] 24)) =
        .ok () ((w.alloc (.cells #[.int .i64 0, .int .i64 0, .int .i64 0, .int .i64 0, .slice none 0 0] 24)).setRow w.heap.size (mnCells m A n c)) ∧
      MenuBlk ((w.alloc (.cells #[.int .i64 0, .int .i64 0, .int .i64 0, .int .i64 0, .slice none 0 0] 24)).setRow w.heap.size (mnCells m A n c)) w.heap.size m A n c ∧
      Below w.heap.size w ((w.alloc (.cells #[.int .i64 0, .int .i64 0, .int .i64 0, .int .i64 0, .slice none 0 0] 24)).setRow w.heap.size (mnCells m A n c)) := by
  have h := Blk.new w 24 #[.int .i64 0, .int .i64 0, .int .i64 0, .int .i64 0, .slice none 0 0]
  have h1 := MenuBlk.store h rfl m A n c
  exact ⟨h1.1, h1.2, below_row ((Below.refl _ w).alloc (Nat.le_refl _) _) (Nat.le_refl _) _⟩
theorem new_zero (w : World) :
    (StoreS 24 (.pointer (some ⟨w.heap.size, 0, none⟩)) (.agg #[.int .i64 0, .int .i64 0, .int .i64 0, .int .i64 0, .slice none 0 0])).run Tryz.prog (w.alloc (.cells #[.int .i64 0, .int .i64 0, .int .i64 0, .int .i64 0, .slice none 0 0] 24)) =
        .ok () ((w.alloc (.cells #[.int .i64 0, .int .i64 0, .int .i64 0, .int .i64 0, .slice none 0 0] 24)).setRow w.heap.size (mnCells zeroM none 0 0)) ∧
      MenuBlk ((w.alloc (.cells #[.int .i64 0, .int .i64 0, .int .i64 0, .int .i64 0, .slice none 0 0] 24)).setRow w.heap.size (mnCells zeroM none 0 0)) w.heap.size zeroM none 0 0 ∧
      Below w.heap.size w ((w.alloc (.cells #[.int .i64 0, .int .i64 0, .int .i64 0, .int .i64 0, .slice none 0 0] 24)).setRow w.heap.size (mnCells zeroM none 0 0)) := new_menu w zeroM none 0 0
/-- What a call gives is kept in a new variable. -/
theorem got_new {w w' : World} {m : Menu} {v : Value} (h : MenuGot w w' m v) : ∃ A n c, v = menuV m A n c ∧
    (StoreS 24 (.pointer (some ⟨w'.heap.size, 0, none⟩)) v).run Tryz.prog (w'.alloc (.cells #[.int .i64 0, .int .i64 0, .int .i64 0, .int .i64 0, .slice none 0 0] 24)) =
        .ok () ((w'.alloc (.cells #[.int .i64 0, .int .i64 0, .int .i64 0, .int .i64 0, .slice none 0 0] 24)).setRow w'.heap.size (mnCells m A n c)) ∧
      (LoadS 24 (.pointer (some ⟨w'.heap.size, 0, none⟩))).run Tryz.prog ((w'.alloc (.cells #[.int .i64 0, .int .i64 0, .int .i64 0, .int .i64 0, .slice none 0 0] 24)).setRow w'.heap.size (mnCells m A n c)) =
        .ok (menuV m A n c) ((w'.alloc (.cells #[.int .i64 0, .int .i64 0, .int .i64 0, .int .i64 0, .slice none 0 0] 24)).setRow w'.heap.size (mnCells m A n c)) ∧
      MenuBlk ((w'.alloc (.cells #[.int .i64 0, .int .i64 0, .int .i64 0, .int .i64 0, .slice none 0 0] 24)).setRow w'.heap.size (mnCells m A n c)) w'.heap.size m A n c ∧
      GensAt ((w'.alloc (.cells #[.int .i64 0, .int .i64 0, .int .i64 0, .int .i64 0, .slice none 0 0] 24)).setRow w'.heap.size (mnCells m A n c)) w'.heap.size A n c m.gens ∧
      Below w.heap.size w ((w'.alloc (.cells #[.int .i64 0, .int .i64 0, .int .i64 0, .int .i64 0, .slice none 0 0] 24)).setRow w'.heap.size (mnCells m A n c)) := by
  obtain ⟨A, n, c, rfl, hG, hb⟩ := h.open_
  obtain ⟨h1, h2, h3⟩ := new_menu w' m A n c
  exact ⟨A, n, c, rfl, h1, h2.load, h2, hG.below h3, hb.trans (h3.mono hb.size)⟩
/-- .. or in an old one. -/
theorem got_set {w w' : World} {m : Menu} {v : Value} (h : MenuGot w w' m v) {g : Nat} {cs : Array Value} (hB : Blk w g 24 cs) (hc : cs.size = 5) : ∃ A n c, v = menuV m A n c ∧
    (StoreS 24 (.pointer (some ⟨g, 0, none⟩)) v).run Tryz.prog w' = .ok () (w'.setRow g (mnCells m A n c)) ∧ (LoadS 24 (.pointer (some ⟨g, 0, none⟩))).run Tryz.prog (w'.setRow g (mnCells m A n c)) = .ok (menuV m A n c) (w'.setRow g (mnCells m A n c)) ∧
    MenuBlk (w'.setRow g (mnCells m A n c)) g m A n c ∧ GensAt (w'.setRow g (mnCells m A n c)) (w'.setRow g (mnCells m A n c)).heap.size A n c m.gens ∧ Below g w (w'.setRow g (mnCells m A n c)) := by
  obtain ⟨A, n, c, rfl, ho, hb⟩ := h
  obtain ⟨h1, h2⟩ := MenuBlk.store (hB.below hb hB.lt) hc m A n c
  refine ⟨A, n, c, rfl, h1, h2.load, h2, own_gens (own_row ho (own_ne ho hB.lt) _), below_row (hb.mono (Nat.le_of_lt hB.lt)) (Nat.le_refl _) _⟩
theorem got_new2 {w w' : World} {m : Menu} {v : Value} (h : MenuGot w w' m v) : ∃ A n c, v = menuV m A n c ∧
    (StoreS 24 (.pointer (some ⟨w'.heap.size, 0, none⟩)) v).run Tryz.prog (w'.alloc (.cells #[.int .i64 0, .int .i64 0, .int .i64 0, .int .i64 0, .slice none 0 0] 24)) =
        .ok () ((w'.alloc (.cells #[.int .i64 0, .int .i64 0, .int .i64 0, .int .i64 0, .slice none 0 0] 24)).setRow w'.heap.size (mnCells m A n c)) ∧
      (LoadS 24 (.pointer (some ⟨w'.heap.size, 0, none⟩))).run Tryz.prog ((w'.alloc (.cells #[.int .i64 0, .int .i64 0, .int .i64 0, .int .i64 0, .slice none 0 0] 24)).setRow w'.heap.size (mnCells m A n c)) =
        .ok (menuV m A n c) ((w'.alloc (.cells #[.int .i64 0, .int .i64 0, .int .i64 0, .int .i64 0, .slice none 0 0] 24)).setRow w'.heap.size (mnCells m A n c)) ∧
      ((w'.alloc (.cells #[.int .i64 0, .int .i64 0, .int .i64 0, .int .i64 0, .slice none 0 0] 24)).setRow w'.heap.size (mnCells m A n c)).ownsRow w.heap.size 61 2 (.slice A n c) n (m.gens.flatMap genCells) ∧
      Below w.heap.size w ((w'.alloc (.cells #[.int .i64 0, .int .i64 0, .int .i64 0, .int .i64 0, .slice none 0 0] 24)).setRow w'.heap.size (mnCells m A n c)) := by
  obtain ⟨A, n, c, rfl, ho, hb⟩ := h
  obtain ⟨h1, h2, h3⟩ := new_menu w' m A n c
  refine ⟨A, n, c, rfl, h1, h2.load, own_row (ho.alloc _) (fun e => ?_) _, hb.trans (h3.mono hb.size)⟩
  have := (ho.lt _ e).2
  omega
theorem got_new3 {w w' : World} {m : Menu} {v : Value} (h : MenuGot w w' m v) {g : Nat} {cs : Array Value} (hR : Blk w' g 24 cs) : ∃ A n c, v = menuV m A n c ∧
    (StoreS 24 (.pointer (some ⟨w'.heap.size, 0, none⟩)) v).run Tryz.prog (w'.alloc (.cells #[.int .i64 0, .int .i64 0, .int .i64 0, .int .i64 0, .slice none 0 0] 24)) =
        .ok () ((w'.alloc (.cells #[.int .i64 0, .int .i64 0, .int .i64 0, .int .i64 0, .slice none 0 0] 24)).setRow w'.heap.size (mnCells m A n c)) ∧
      (LoadS 24 (.pointer (some ⟨w'.heap.size, 0, none⟩))).run Tryz.prog ((w'.alloc (.cells #[.int .i64 0, .int .i64 0, .int .i64 0, .int .i64 0, .slice none 0 0] 24)).setRow w'.heap.size (mnCells m A n c)) =
        .ok (menuV m A n c) ((w'.alloc (.cells #[.int .i64 0, .int .i64 0, .int .i64 0, .int .i64 0, .slice none 0 0] 24)).setRow w'.heap.size (mnCells m A n c)) ∧
      ((w'.alloc (.cells #[.int .i64 0, .int .i64 0, .int .i64 0, .int .i64 0, .slice none 0 0] 24)).setRow w'.heap.size (mnCells m A n c)).ownsRow w.heap.size 61 2 (.slice A n c) n (m.gens.flatMap genCells) ∧
      Below w.heap.size w ((w'.alloc (.cells #[.int .i64 0, .int .i64 0, .int .i64 0, .int .i64 0, .slice none 0 0] 24)).setRow w'.heap.size (mnCells m A n c)) ∧
      Blk ((w'.alloc (.cells #[.int .i64 0, .int .i64 0, .int .i64 0, .int .i64 0, .slice none 0 0] 24)).setRow w'.heap.size (mnCells m A n c)) g 24 cs := by
  obtain ⟨A, n, c, h1, h2, h3, h4, h5⟩ := got_new2 h
  exact ⟨A, n, c, h1, h2, h3, h4, h5, (hR.alloc _).row_far (by have := hR.lt; omega) _⟩
theorem got_new4 {w w' : World} {m : Menu} {v : Value} (h : MenuGot w w' m v) {g : Nat} {cs : Array Value} (hR : Blk w' g 24 cs) : ∃ A n c, v = menuV m A n c ∧
    (StoreS 24 (.pointer (some ⟨w'.heap.size, 0, none⟩)) v).run Tryz.prog (w'.alloc (.cells #[.int .i64 0, .int .i64 0, .int .i64 0, .int .i64 0, .slice none 0 0] 24)) = .ok () ((w'.alloc (.cells #[.int .i64 0, .int .i64 0, .int .i64 0, .int .i64 0, .slice none 0 0] 24)).setRow w'.heap.size (mnCells m A n c)) ∧
      (LoadS 24 (.pointer (some ⟨w'.heap.size, 0, none⟩))).run Tryz.prog ((w'.alloc (.cells #[.int .i64 0, .int .i64 0, .int .i64 0, .int .i64 0, .slice none 0 0] 24)).setRow w'.heap.size (mnCells m A n c)) = .ok (menuV m A n c) ((w'.alloc (.cells #[.int .i64 0, .int .i64 0, .int .i64 0, .int .i64 0, .slice none 0 0] 24)).setRow w'.heap.size (mnCells m A n c)) ∧ MenuBlk ((w'.alloc (.cells #[.int .i64 0, .int .i64 0, .int .i64 0, .int .i64 0, .slice none 0 0] 24)).setRow w'.heap.size (mnCells m A n c)) w'.heap.size m A n c ∧
      ((w'.alloc (.cells #[.int .i64 0, .int .i64 0, .int .i64 0, .int .i64 0, .slice none 0 0] 24)).setRow w'.heap.size (mnCells m A n c)).ownsRow w.heap.size 61 2 (.slice A n c) n (m.gens.flatMap genCells) ∧ Below w.heap.size w ((w'.alloc (.cells #[.int .i64 0, .int .i64 0, .int .i64 0, .int .i64 0, .slice none 0 0] 24)).setRow w'.heap.size (mnCells m A n c)) ∧ Blk ((w'.alloc (.cells #[.int .i64 0, .int .i64 0, .int .i64 0, .int .i64 0, .slice none 0 0] 24)).setRow w'.heap.size (mnCells m A n c)) g 24 cs := by
  obtain ⟨A, n, c, h1, h2, h3, h4, h5, h6⟩ := got_new3 h hR
  exact ⟨A, n, c, h1, h2, h3, (MenuBlk.store (Blk.new w' 24 #[.int .i64 0, .int .i64 0, .int .i64 0, .int .i64 0, .slice none 0 0]) rfl m A n c).2, h4, h5, h6⟩
theorem got_set2 {w w' : World} {m : Menu} {v : Value} (h : MenuGot w w' m v) {g : Nat} {cs : Array Value} (hB : Blk w g 24 cs) (hc : cs.size = 5) : ∃ A n c, v = menuV m A n c ∧
    (StoreS 24 (.pointer (some ⟨g, 0, none⟩)) v).run Tryz.prog w' = .ok () (w'.setRow g (mnCells m A n c)) ∧
    MenuBlk (w'.setRow g (mnCells m A n c)) g m A n c ∧ (w'.setRow g (mnCells m A n c)).ownsRow w.heap.size 61 2 (.slice A n c) n (m.gens.flatMap genCells) ∧ Below g w (w'.setRow g (mnCells m A n c)) := by
  obtain ⟨A, n, c, rfl, ho, hb⟩ := h
  obtain ⟨h1, h2⟩ := MenuBlk.store (hB.below hb hB.lt) hc m A n c
  refine ⟨A, n, c, rfl, h1, h2, own_row ho (own_ne ho hB.lt) _, below_row (hb.mono (Nat.le_of_lt hB.lt)) (Nat.le_refl _) _⟩
theorem got_old4 {w w' : World} {m : Menu} {v : Value} (h : MenuGot w w' m v) {g g7 : Nat} {cs cs7 : Array Value} (hR : Blk w g 24 cs) (hZ : Blk w g7 24 cs7) (hc : cs7.size = 5) (hne : g ≠ g7) : ∃ A n c, v = menuV m A n c ∧
    (StoreS 24 (.pointer (some ⟨g7, 0, none⟩)) v).run Tryz.prog w' = .ok () (w'.setRow g7 (mnCells m A n c)) ∧
      (LoadS 24 (.pointer (some ⟨g7, 0, none⟩))).run Tryz.prog (w'.setRow g7 (mnCells m A n c)) = .ok (menuV m A n c) (w'.setRow g7 (mnCells m A n c)) ∧ MenuBlk (w'.setRow g7 (mnCells m A n c)) g7 m A n c ∧
      (w'.setRow g7 (mnCells m A n c)).ownsRow w.heap.size 61 2 (.slice A n c) n (m.gens.flatMap genCells) ∧ Below g7 w (w'.setRow g7 (mnCells m A n c)) ∧ Blk (w'.setRow g7 (mnCells m A n c)) g 24 cs := by
  have hb := h.choose_spec.choose_spec.choose_spec.2.2
  obtain ⟨A, n, c, h1, h2, h3, h4, h5⟩ := got_set2 h hZ hc
  exact ⟨A, n, c, h1, h2, h3.load, h3, h4, h5, (hR.below hb hR.lt).row_far hne _⟩
theorem MenuBlk.facts {w : World} {g : Nat} {m : Menu} {A : Option Addr} {n c : Nat} (h : MenuBlk w g m A n c) :
    w.cell? ⟨g, 0, none⟩ = some (.int .i64 m.last) ∧ w.cell? ⟨g, 1, none⟩ = some (.int .i64 m.def_) ∧ w.cell? ⟨g, 2, none⟩ = some (.int .i64 m.next) ∧ w.cell? ⟨g, 3, none⟩ = some (.int .i64 m.trial) ∧ w.cell? ⟨g, 4, none⟩ = some (.slice A n c) ∧ (∀ i, w.frozen? ⟨g, i, none⟩ = false) := menu_facts h
theorem gens_nil (w : World) (B : Nat) : GensAt w B none 0 0 zeroM.gens := ⟨⟨rfl, Nat.le_refl _, Nat.zero_le _, fun h => absurd h (by decide)⟩, rfl⟩

def sM1 : Menu := (addM zeroM place).menu
def sM2 : Menu := (defaultM sM1 1).menu
def sM3 : Menu := (nextM sM2 1).menu
def sM4 : Menu := loadM sM3
def sM5 : Menu := loadM sM4
theorem s_facts : (addM zeroM place).err = 0 ∧ addN zeroM place = 1 ∧ (defaultM sM1 1).err = 0 ∧ (nextM sM2 1).err = 0 ∧ loadN sM3 = 1 ∧ loadB sM3 = true ∧ sM4.trial = 1 ∧ sM4.next = 0 ∧ loadN sM4 = 1 ∧ loadB sM4 = false ∧ sM5.trial = 0 ∧ (removeM sM5 1).err = 68 := by
  decide +kernel
theorem s_gens : sM1.gens.map (·.path) = [place] ∧ sM2.gens = sM1.gens ∧ sM3.gens = sM1.gens ∧ sM4.gens = sM1.gens ∧ sM5.gens = sM1.gens := ⟨rfl, rfl, rfl, rfl, rfl⟩
theorem s_text : textM zeroM = [109, 101, 110, 117, 10, 108, 97, 115, 116, 32, 48, 10, 100, 101, 102, 97, 117, 108, 116, 32, 48, 10, 110, 101, 120, 116, 32, 48, 10, 116, 114, 105, 97, 108, 32, 48, 10, 101, 110, 100, 10] := by
  have h0 : Lib.itoa 0 = [48] := by
    unfold Lib.itoa
    rw [if_neg (by decide)]
    exact Lib.decDigits_one (i := 0) (by decide)
  unfold textM
  rw [if_pos zeroM_ok]
  simp [gensT, headT, lineT, lastW, defaultW, nextW, trialW, zeroM, h0]
end Go.Proofs.YtdhlklidenfbeaaGreatDoor
