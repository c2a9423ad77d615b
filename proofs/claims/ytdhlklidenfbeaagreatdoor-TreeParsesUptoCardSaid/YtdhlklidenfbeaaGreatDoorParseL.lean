/- tree.line. -/
import Derived.Test.YtdhlklidenfbeaaGreatDoorParseP
import Derived.Test.YtdhlklidenfbeaaGreatDoorLayP
import Derived.Test.YtdhlklidenfbeaaGreatDoorMarks
import Derived.Test.YtdhlklidenfbeaaGreatDoorRef08C
import Derived.Lib.IndexLaws
import Derived.Lib.SlBytesConst
import Derived.Lib.IndexBytes
namespace Go.Proofs.YtdhlklidenfbeaaGreatDoor
open Go.RowKit
set_option linter.unusedVariables false
set_option linter.unusedSimpArgs false

/-- What the globals hold, now and later: internal/bytealg.MaxLen some number. -/
structure MaxOk (w : World) : Prop where
  max : ∀ w', Below w.heap.size w w' → ∃ m, w'.cell? ⟨1, 0, none⟩ = some (.int .i64 m)
theorem MaxOk.below {w w' : World} (h : MaxOk w) (hb : Below w.heap.size w w') : MaxOk w' := ⟨fun v hv => h.max v (hb.trans (hv.mono hb.size))⟩
theorem MaxOk.now {w : World} (h : MaxOk w) : ∃ m, w.cell? ⟨1, 0, none⟩ = some (.int .i64 m) := h.max w (Below.refl _ w)

def numsT (l : Txt) : List Int := l.map fun x => (x.toNat : Int)
theorem numsT_length (l : Txt) : (numsT l).length = l.length := by simp [numsT]
theorem bytesOf_numsT (l : Txt) : Lib.bytesOf (numsT l) = l := by
  unfold Lib.bytesOf numsT
  rw [List.map_map]
  conv => rhs; rw [← List.map_id l]
  apply List.map_congr_left
  intro x _
  simp
theorem numsT_range (l : Txt) : ∀ x ∈ numsT l, 0 ≤ x ∧ x < 256 := by
  intro x hx
  obtain ⟨y, _, rfl⟩ := List.mem_map.1 hx
  have := y.toNat_lt
  exact ⟨by omega, by omega⟩
/-- A text as bytes in memory, below block B; a nil slice has no capacity. -/
structure TextIn (w : World) (B : Nat) (A : Option Addr) (n c : Nat) (s : Txt) : Prop where
  slc : Slc w B 1 A n c (s.map bv)
  nil : A = none → c = 0
theorem TextIn.len {w : World} {B : Nat} {A : Option Addr} {n c : Nat} {s : Txt} (h : TextIn w B A n c s) : s.length = n := by have := h.slc.len; simpa using this
theorem TextIn.below {w w' : World} {B : Nat} {A : Option Addr} {n c : Nat} {s : Txt} (h : TextIn w B A n c s) (hb : Below B w w') : TextIn w' B A n c s := ⟨h.slc.below hb, h.nil⟩
theorem TextIn.drewN {w : World} {B : Nat} {A : Option Addr} {n c : Nat} {s : Txt} (h : TextIn w B A n c s) (q : Nat) : TextIn (w.drewN q) B A n c s := ⟨h.slc.keep fun _ _ => World.cell?_drewN _ _ _, h.nil⟩
theorem TextIn.bytes {w : World} {B : Nat} {A : Option Addr} {n c : Nat} {s : Txt} (h : TextIn w B A n c s) : Lib.BytesIn w A n (numsT s) := fun hn => by
  obtain ⟨b, off, e, _, hc⟩ := h.slc.at_ hn
  refine ⟨b, off, e, fun i hi => hc i _ ?_⟩
  have hl : i < s.length := by rw [h.len]; exact hi
  simp [numsT, bv, List.getElem?_map, List.getElem?_eq_getElem hl, List.getD]
theorem TextIn.none_ (w : World) (B : Nat) : TextIn w B none 0 0 [] := ⟨⟨rfl, Nat.le_refl _, Nat.zero_le _, fun h => absurd h (by decide)⟩, fun _ => rfl⟩
theorem TextIn.take {w : World} {B : Nat} {A : Option Addr} {n c : Nat} {s : Txt} (h : TextIn w B A n c s) {m : Nat} (hm : m ≤ n) : TextIn w B A m c (s.take m) :=
  ⟨by rw [List.map_take]; exact h.slc.upto hm, h.nil⟩
theorem TextIn.from_ {w : World} {B : Nat} {A : Option Addr} {n c : Nat} {s : Txt} (h : TextIn w B A n c s) {j : Nat} (hj : j ≤ n) :
    ∃ A2, Lib.fromV A n c j = .slice A2 (n - j) (c - j) ∧ TextIn w B A2 (n - j) (c - j) (s.drop j) := by
  refine ⟨_, rfl, ⟨by simp; have := h.len; omega, by have := h.slc.le; omega, by have := h.slc.cmax; omega, fun hn => ?_⟩, fun e => ?_⟩
  · obtain ⟨b, off, e, hb, hc⟩ := h.slc.at_ (by omega)
    have := h.slc.le
    subst e
    rw [if_neg (by omega)]
    refine ⟨b, off + j, by rw [Option.map_some, addr_of_add], hb, fun i u hu => ?_⟩
    rw [Nat.add_assoc]
    exact hc (j + i) u (by rw [List.map_drop, List.getElem?_drop] at hu; exact hu)
  · by_cases hcj : c = j
    · omega
    · rw [if_neg hcj] at e
      have : A = none := by cases A with | none => rfl | some a => cases e
      have := h.nil this
      omega

/-- A text's first line, what is behind it, and whether it ends. -/
def lineR (s : Txt) : Txt × Txt × Bool := match lineB s with | some (h, r) => (h, r, true) | none => (s, [], false)
theorem lineR_at {s : Txt} {o : Nat} (h : Lib.indexByte s 10 = (o : Int)) : lineR s = (s.take o, s.drop (o + 1), true) := by
  obtain ⟨h1, h2⟩ := Lib.indexByte_some h
  have e : s = s.take o ++ 10 :: s.drop (o + 1) := by
    obtain ⟨ho, hv⟩ := List.getElem?_eq_some_iff.1 h1
    rw [← hv, List.getElem_cons_drop, List.take_append_drop]
  have hn : (10 : UInt8) ∉ s.take o := fun hm => by
    obtain ⟨k, hk, hv⟩ := List.mem_iff_getElem.1 hm
    have hk' := hk
    rw [List.length_take] at hk'
    refine h2 k (by omega) ?_
    rw [List.getElem_take] at hv
    rw [List.getElem?_eq_getElem (by omega), hv]
  have := lineB_app (s.take o) (s.drop (o + 1)) hn
  rw [← e] at this
  unfold lineR
  rw [this]
theorem lineR_no {s : Txt} (h : Lib.indexByte s 10 = -1) : lineR s = (s, [], false) := by
  have hn : (10 : UInt8) ∉ s := fun hm => by
    obtain ⟨k, hk, hv⟩ := List.mem_iff_getElem.1 hm
    exact Lib.indexByte_none h k (by rw [List.getElem?_eq_getElem hk, hv])
  unfold lineR
  cases hl : lineB s with
  | none => rfl
  | some x =>
    obtain ⟨e, _⟩ := lineB_some s x.1 x.2 hl
    exact absurd (by rw [e]; simp) hn

theorem cut_line {w : World} {B : Nat} {A : Option Addr} {n c : Nat} {s : Txt} (h : TextIn w B A n c s) (hn : n ≤ 1000000000) (hm : ∃ m, w.cell? ⟨1, 0, none⟩ = some (.int .i64 m)) (g : Nat) (hg : w.cell? ⟨g, 0, none⟩ = some (.int .u8 10)) :
    Calls Tryz.prog 66 #[.slice A n c, .slice (some ⟨g, 0, none⟩) 1 1] w fun e w' => ∃ A1 n1 c1 A2 n2 c2, e = .returned (.tuple #[.slice A1 n1 c1, .slice A2 n2 c2, .bool (lineR s).2.2]) ∧
      TextIn w B A1 n1 c1 (lineR s).1 ∧ TextIn w B A2 n2 c2 (lineR s).2.1 ∧ ∃ q, w' = w.drewN q := by
  obtain ⟨m, hm⟩ := hm
  have hcut := Tryz.bytes_Cut_all A (some ⟨g, 0, none⟩) n c 1 1 (numsT s) [10] m w (by rw [numsT_length, h.len]) rfl (numsT_range s) (by simp) h.bytes
    (fun _ => ⟨g, 0, rfl, fun i hi => by obtain rfl : i = 0 := by omega
                                         exact hg⟩) h.nil h.slc.le (by omega) (by decide) hm
  rw [bytesOf_numsT, show Lib.bytesOf [10] = [10] from rfl, Lib.index_one] at hcut
  refine hcut.mono ?_
  rintro e w' ⟨rfl, q, rfl⟩
  unfold Lib.cutV
  by_cases h0 : 0 ≤ Lib.indexByte s 10
  · obtain ⟨o, ho⟩ : ∃ o : Nat, Lib.indexByte s 10 = (o : Int) := ⟨(Lib.indexByte s 10).toNat, by omega⟩
    have hlt : o < s.length := by
      obtain ⟨h1, _⟩ := Lib.indexByte_some ho
      exact (List.getElem?_eq_some_iff.1 h1).1
    rw [h.len] at hlt
    rw [if_pos h0, lineR_at ho, ho]
    obtain ⟨A2, e2, h2⟩ := h.from_ (j := o + 1) (by omega)
    exact ⟨A, o, c, A2, _, _, by rw [Int.toNat_natCast, e2], h.take (by omega), h2, q, rfl⟩
  · have hneg : Lib.indexByte s 10 = -1 := by
      have := Lib.index_ge s [10]
      rw [Lib.index_one] at this
      omega
    rw [if_neg h0, lineR_no hneg]
    exact ⟨A, n, c, none, 0, 0, rfl, h, TextIn.none_ w B, q, rfl⟩

def LinePost (w : World) (B : Nat) (s : Txt) : Ending → World → Prop := fun e w' => ∃ A2 n2 c2, e = .returned (.tuple #[.string ⟨(lineR s).1.toArray⟩, .slice A2 n2 c2, .bool (lineR s).2.2]) ∧
  TextIn w' B A2 n2 c2 (lineR s).2.1 ∧ Below w.heap.size w w'
set_option maxHeartbeats 4000000 in
set_option maxRecDepth 100000 in
theorem line_any {w : World} {B : Nat} {A : Option Addr} {n c : Nat} {s : Txt} (h : TextIn w B A n c s) (hB : B ≤ w.heap.size) (hn : n ≤ 1000000000) (hm : MaxOk w) :
    Calls Tryz.prog 40 #[.slice A n c] w (LinePost w B s) := by
  obtain ⟨r1, hr1⟩ : ∃ r1, r1 = (lineR s).1 := ⟨_, rfl⟩
  obtain ⟨r2, hr2⟩ : ∃ r2, r2 = (lineR s).2.1 := ⟨_, rfl⟩
  obtain ⟨r3, hr3⟩ : ∃ r3, r3 = (lineR s).2.2 := ⟨_, rfl⟩
  have hb : Below w.heap.size w (w.alloc (.cells #[.int .u8 10] 5 (1, 2))) := (Below.refl _ w).alloc (Nat.le_refl _) _
  have HC := cut_line (h.below (hb.mono hB)) hn (hm.max _ hb) w.heap.size (World.cell?_alloc_mark w _ _ _ 0)
  unfold LinePost
  rw [← hr1, ← hr2, ← hr3] at HC ⊢
  have HK := Lib.hid HC
  clear HC
  have HB := Lib.hid hb
  have HBB := Lib.hid hB
  clear hb hB hr1 hr2 hr3 hn hm
  have H := Lib.hid h
  clear h
  have kc := fun (w : World) (C : Array Value) (n c : Nat) => Lib.run_convert_bytes_const (P := Tryz.prog) w 32 5 C n c Tryz.underlying32 Tryz.underlying5
  go_enter Tryz.func40, Tryz.ntmps40
  go_wp2_with (go_at_call 66; refine HK.out.mono ?_; rintro e w' ⟨A1, n1, c1, A2, n2, c2, rfl, h1, h2, q, rfl⟩; have HX := Lib.hid h2; have hk := convert_bytes (P := Tryz.prog) (src := 32) Tryz.underlying32 Tryz.underlying5 (h1.drewN q).slc 9 Tryz.underlying9; clear h1 h2)
  all_goals try go_ret3
  exact ⟨A2, n2, c2, rfl, HX.out.drewN q, HB.out.trans (dr_below _ q)⟩
end Go.Proofs.YtdhlklidenfbeaaGreatDoor
