/- reads, and BootTexts. -/
import Derived.Test.YtdhlklidenfbeaaGreatDoorBootX
import Derived.Test.YtdhlklidenfbeaaGreatDoorLaw22T
import Derived.Test.YtdhlklidenfbeaaGreatDoorMenuA
import Derived.Test.YtdhlklidenfbeaaGreatDoorArgM
namespace Go.Proofs.YtdhlklidenfbeaaGreatDoor
open Go.RowKit Go.Shelf
set_option linter.unusedVariables false
set_option linter.unusedSimpArgs false

/-- A block whose mark lies behind its cells: none is frozen. -/
def MBlk (w : World) (g : Nat) (t : TypeId) (cs : Array Value) : Prop := ∃ fz : Nat × Nat, w.heap[g]? = some (.cells cs t fz) ∧ cs.size ≤ fz.1
section
variable {w w' : World} {g : Nat} {t : TypeId} {cs : Array Value}
theorem MBlk.lt (h : MBlk w g t cs) : g < w.heap.size := by
  obtain ⟨fz, h, _⟩ := h
  rcases Nat.lt_or_ge g w.heap.size with hlt | hge
  · exact hlt
  · rw [Array.getElem?_eq_none hge] at h; cases h
theorem MBlk.below {B : Nat} (h : MBlk w g t cs) (hb : Below B w w') (hg : g < B) : MBlk w' g t cs := by
  obtain ⟨fz, h, hf⟩ := h; exact ⟨fz, (hb.block g hg).trans h, hf⟩
theorem MBlk.slc (h : MBlk w g t cs) {n c : Nat} (hl : n ≤ cs.size) (hnc : n ≤ c) (hc : c ≤ maxLen) : Slc w (g + 1) 1 (some ⟨g, 0, none⟩) n c (cs.toList.take n) := by
  obtain ⟨fz, h, _⟩ := h
  exact ⟨by simp; omega, hnc, hc, fun _ => ⟨g, 0, rfl, by omega, fun j u hu => by
    rw [Nat.zero_add, cell_of_row w g j cs t fz h]
    rw [List.getElem?_take] at hu
    split at hu
    · simpa using hu
    · cases hu⟩⟩
end

theorem bytes_made (w : World) {bytes : List UInt8} {n : Nat} (hn : bytes.length = n) (hm : n ≤ maxLen) :
    ∃ cap w' cur, (convert 9 32 (.string ⟨bytes.toArray⟩)).run Tryz.prog w = .ok (.slice (some ⟨w.heap.size, 0, none⟩) n cap) w' ∧ Below w.heap.size w w' ∧ w.heap.size < w'.heap.size ∧ MBlk w' w.heap.size 5 cur ∧ cur.toList.take n = bytes.map bv ∧ n ≤ cap ∧ cap ≤ maxLen ∧ n ≤ cur.size := by
  have h := run_bytes_of_string (P := Tryz.prog) w 9 32 5 ⟨bytes.toArray⟩ Tryz.underlying9 Tryz.underlying32 Tryz.underlying5
  have hsz : (⟨bytes.toArray⟩ : ByteArray).size = n := by rw [← hn]; rfl
  rw [hsz] at h
  refine ⟨_, _, _, h, ((Below.refl _ w).drew).alloc (Nat.le_refl _) _, by simp, ⟨_, heap_alloc_new w.drew _, Nat.le_refl _⟩, ?_, ?_, ?_, ?_⟩
  · show ((bytes.toArray.map (fun b => Value.int .u8 b.toNat)) ++ Array.replicate _ (Value.int .u8 0)).toList.take n = _
    rw [Array.toList_append, List.take_left' (by simp [hn])]
    simp [bv]
  · exact Nat.le_trans (Nat.le_of_eq hsz.symm) (hsz ▸ grownCap_ge _ _ _ _)
  · exact hsz ▸ grownCap_le_maxLen _ _ _ _ (by rw [hsz]; exact hm)
  · show n ≤ ((bytes.toArray.map (fun b => Value.int .u8 b.toNat)) ++ Array.replicate _ (Value.int .u8 0)).size
    simp [hn]

theorem xor_u8 (x y : UInt8) : bits BinOp.xor IntKind.u8 (x.toNat : Int) (y.toNat : Int) = ((x ^^^ y).toNat : Int) := by
  have h : ∀ z : UInt8, BitVec.ofInt 8 (z.toNat : Int) = z.toBitVec := fun z => by
    apply BitVec.eq_of_toNat_eq
    have := z.toNat_lt
    rw [BitVec.toNat_ofInt]
    show ((z.toNat : Int) % (2 ^ 8 : Nat)).toNat = z.toNat
    omega
  show IntKind.u8.wrap ((BitVec.ofInt 8 (x.toNat : Int) ^^^ BitVec.ofInt 8 (y.toNat : Int)).toNat : Int) = _
  rw [h, h]
  have := (x ^^^ y).toNat_lt
  show IntKind.u8.wrap ((x ^^^ y).toNat : Int) = _
  generalize (x ^^^ y).toNat = m at *
  simp [IntKind.wrap, IntKind.bits, IntKind.signed]
  omega
theorem MBlk.frozen {w : World} {g : Nat} {t : TypeId} {cs : Array Value} (h : MBlk w g t cs) {i : Nat} (hi : i < cs.size) : w.frozen? ⟨g, i, none⟩ = false := by
  obtain ⟨⟨lo, hi'⟩, h, hf⟩ := h
  simp only [World.frozen?, h, Bool.and_eq_false_iff, decide_eq_false_iff_not]
  left
  simp only at hf
  omega
theorem MBlk.cell {w : World} {g : Nat} {t : TypeId} {cs : Array Value} (h : MBlk w g t cs) (i : Nat) : w.cell? ⟨g, i, none⟩ = cs[i]? := by
  obtain ⟨fz, h, _⟩ := h
  exact cell_of_row w g i cs t fz h
theorem MBlk.set_ {w : World} {g : Nat} {t : TypeId} {cs : Array Value} (h : MBlk w g t cs) (i : Nat) (u : Value) : MBlk (w.setCell ⟨g, i, none⟩ u) g t (cs.setIfInBounds i u) := by
  obtain ⟨fz, h, hf⟩ := h
  refine ⟨fz, ?_, by simpa using hf⟩
  simp [World.setCell, Array.getElem?_modify, h]
theorem bparse_good {w : World} {text : Txt} (hlen : text.length ≤ 10000000) (hm : MaxOk w) (ha : AtoiOk w) (ht : TabOk w) (hex : ∃ μ, menuB μ = true ∧ textM μ = text) :
    Calls Tryz.prog 11 #[.string ⟨text.toArray⟩] w fun e w' => ∃ m A n c, e = .returned (.tuple #[menuV m A n c, .int .i64 0]) ∧ GensAt w' w'.heap.size A n c m.gens ∧ menuB m = true ∧ textM m = text ∧ Below w.heap.size w w' := by
  refine (bparse_any hlen hm ha ht).mono ?_
  rintro e w' ⟨hb, ⟨m, A, n, c, rfl, ho, h1, h2⟩ | ⟨_, hno⟩⟩
  · exact ⟨m, A, n, c, rfl, own_gens ho, h1, h2, hb⟩
  · obtain ⟨μ, h1, h2⟩ := hex
    exact absurd h2 (hno μ h1)
theorem bparse_bad {w : World} {text : Txt} (hlen : text.length ≤ 10000000) (hm : MaxOk w) (ha : AtoiOk w) (ht : TabOk w) (hex : ¬ ∃ μ, menuB μ = true ∧ textM μ = text) :
    Calls Tryz.prog 11 #[.string ⟨text.toArray⟩] w fun e w' => e = .returned (.tuple #[menuV zeroM none 0 0, .int .i64 66]) ∧ Below w.heap.size w w' := by
  refine (bparse_any hlen hm ha ht).mono ?_
  rintro e w' ⟨hb, ⟨m, A, n, c, rfl, ho, h1, h2⟩ | ⟨rfl, _⟩⟩
  · exact absurd ⟨m, h1, h2⟩ hex
  · exact ⟨rfl, hb⟩
theorem right_paths {m : Menu} (h : menuB m = true) : ∀ g ∈ m.gens, g.path.length ≤ 1000000000 := fun g hg => by
  have := pathB_len ((right_menu h).gens g hg).2.2
  omega
section
attribute [local go_sem ↓] load_menu_mark store_menu_mark
set_option maxRecDepth 100000 in
set_option maxHeartbeats 4000000 in
theorem reads_any {w : World} {text : Txt} (hlen : text.length ≤ 10000000) (hm : MaxOk w) (ha : AtoiOk w) (ht : TabOk w) :
    Calls Tryz.prog 13 #[.string ⟨text.toArray⟩] w fun e w' => e = .returned (.bool true) ∧ Below w.heap.size w w' := by
  have tle : (ByteArray.mk text.toArray).toList = text := Go.ByteArray.toList_eq _
  by_cases hex : ∃ μ, menuB μ = true ∧ textM μ = text
  · have hp := bparse_good hlen hm ha ht hex
    have hne : (text == []) = false := by
      obtain ⟨μ, h1, h2⟩ := hex
      have := text_ne h1
      rw [h2] at this
      simpa using this
    have heq : (text == text) = true := by simp
    clear hex hm ha ht
    go_enter Tryz.func13, Tryz.ntmps13
    go_wp2_with (first
      | (go_at_call 11; refine hp.mono ?_; clear hp; rintro e w1 ⟨m, A, n, c, rfl, hG, hmb, hmt, hb⟩; obtain ⟨hst, hM, hbn⟩ := new_menu w1 m A n c; have hl := hM.load; have htx := text22_any (hG.below hbn) hbn.size (right_paths hmb); rw [hmt] at htx; have HB := Lib.hid (hb.trans (hbn.mono hb.size)); clear hM hbn hG hb)
      | (go_at_call 10; refine htx.mono ?_; clear htx; rintro e w2 ⟨rfl, hb2⟩))
    go_ret
    exact ⟨rfl, HB.out.trans (hb2.mono HB.out.size)⟩
  · have hp := bparse_bad hlen hm ha ht hex
    clear hex hm ha ht
    go_enter Tryz.func13, Tryz.ntmps13
    go_wp2_with (first
      | (go_at_call 11; refine hp.mono ?_; clear hp; rintro e w1 ⟨rfl, hb⟩; obtain ⟨hst, hM, hbn⟩ := new_menu w1 zeroM none 0 0; have hl := hM.load; have hsm := same_any (m := zeroM) (gens_nil ((w1.alloc (.cells #[.int .i64 0, .int .i64 0, .int .i64 0, .int .i64 0, .slice none 0 0] 24)).setRow w1.heap.size (mnCells zeroM none 0 0)) 0) (gens_nil _ 0) (Nat.zero_le _); have HB := Lib.hid (hb.trans (hbn.mono hb.size)); clear hM hbn hb)
      | (go_at_call 12; refine hsm.mono ?_; clear hsm; rintro e w2 ⟨rfl, hb2⟩))
    go_ret
    exact ⟨rfl, HB.out.trans (hb2.mono HB.out.size)⟩
end
/-- Unlike menus have unlike texts. -/
theorem text_inj {a b : Menu} (ha : menuB a = true) (hb : menuB b = true) (h : textM a = textM b) : a = b := by
  have e : menuL a = menuL b := by rw [← lines_menu ha, ← lines_menu hb, h]
  have hl : a.gens.length = b.gens.length := by
    have := congrArg List.length e
    rw [menuL_length, menuL_length] at this
    omega
  have key : ∀ i, 1 ≤ i → i ≤ 4 → (if i = 1 then a.last else if i = 2 then a.def_ else if i = 3 then a.next else a.trial) = (if i = 1 then b.last else if i = 2 then b.def_ else if i = 3 then b.next else b.trial) := fun i h1 h4 => by
    obtain ⟨s, hs⟩ : ∃ s, (menuL a)[i]? = some s := ⟨_, List.getElem?_eq_getElem (by rw [menuL_length]; omega)⟩
    have e1 := line_num ha hs h1 h4
    have e2 := line_num hb (by rw [← e]; exact hs) h1 h4
    rw [e1] at e2
    injection e2
  have hg : a.gens = b.gens := by
    apply List.ext_getElem hl
    intro i h1 h2
    obtain ⟨s, hs⟩ : ∃ s, (menuL a)[i + 5]? = some s := ⟨_, List.getElem?_eq_getElem (by rw [menuL_length]; omega)⟩
    obtain ⟨_, e2, e3⟩ := line_gen ha hs (by omega) (by simpa using h1)
    obtain ⟨_, e4, e5⟩ := line_gen hb (by rw [← e]; exact hs) (by omega) (by simpa using h2)
    simp only [Nat.add_sub_cancel] at e2 e3 e4 e5
    rw [e2] at e4
    injection e4 with e4
    rw [e3] at e5
    generalize a.gens[i] = x at *
    generalize b.gens[i] = y at *
    obtain ⟨x1, x2⟩ := x
    obtain ⟨y1, y2⟩ := y
    simp only at e4 e5
    rw [e4, e5]
  have k1 := key 1 (by decide) (by decide)
  have k2 := key 2 (by decide) (by decide)
  have k3 := key 3 (by decide) (by decide)
  have k4 := key 4 (by decide) (by decide)
  simp at k1 k2 k3 k4
  obtain ⟨a1, a2, a3, a4, a5⟩ := a
  obtain ⟨b1, b2, b3, b4, b5⟩ := b
  simp only at k1 k2 k3 k4 hg
  rw [k1, k2, k3, k4, hg]
end Go.Proofs.YtdhlklidenfbeaaGreatDoor
