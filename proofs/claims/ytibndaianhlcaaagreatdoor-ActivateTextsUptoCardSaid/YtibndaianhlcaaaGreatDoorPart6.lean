/- strings.SplitSeq at "/": what its iterator gives. A script is read, step by step: plain, with no program in sight. Contracts of the library laid at this dump. -/
import Derived.Test.YtibndaianhlcaaaGreatDoorPart5
import Derived.Test.YtibndaianhlcaaaGreatDoorPart2
import Derived.Shelf.Abstract
import Derived.Shelf.RegionOpen
import Derived.Test.YtibndaianhlcaaaGreatDoorPart4
import Derived.Shelf.Strings.Search2
import Derived.Shelf.Strings.Prefix
import Derived.Shelf.LaysM
import Derived.Shelf.LaysC
import Derived.Ground.GgwProg
import Derived.Ground.SlgnProg
import Derived.Ground.SlgfProg
import Derived.Test.YtibndaianhlcaaaGreatDoorProg
namespace Go.Proofs.YtibndaianhlcaaaGreatDoor
open Go.RowKit Go.Shelf
set_option linter.unusedVariables false
set_option linter.unusedSimpArgs false

theorem index_none : ∀ (l : Txt), (47 : UInt8) ∉ l → Lib.indexByte l 47 = -1
  | [], _ => by simp [Lib.indexByte]
  | x :: l, h => by
    have h1 : x ≠ 47 := fun e => h (by rw [e]; exact List.mem_cons_self ..)
    have h2 := index_none l (fun e => h (List.mem_cons_of_mem _ e))
    simp [Lib.indexByte, h1, h2]
theorem index_cut : ∀ (a b : Txt), (47 : UInt8) ∉ a → Lib.indexByte (a ++ 47 :: b) 47 = (a.length : Int)
  | [], b, _ => by simp [Lib.indexByte]
  | x :: a, b, h => by
    have h1 : x ≠ 47 := fun e => h (by rw [e]; exact List.mem_cons_self ..)
    have h2 := index_cut a b (fun e => h (List.mem_cons_of_mem _ e))
    show (if x == 47 then 0 else if Lib.indexByte (a ++ 47 :: b) 47 == -1 then -1 else Lib.indexByte (a ++ 47 :: b) 47 + 1) = _
    rw [h2, if_neg (by simpa using h1), if_neg (by simp)]
    simp
theorem cut_of_mem : ∀ (l : Txt), (47 : UInt8) ∈ l → ∃ a b, l = a ++ 47 :: b ∧ (47 : UInt8) ∉ a
  | [], h => by cases h
  | x :: l, h => by
    by_cases hx : x = 47
    · exact ⟨[], l, by rw [hx]; rfl, by simp⟩
    · obtain ⟨a, b, e, hn⟩ := cut_of_mem l (by
        rcases List.mem_cons.1 h with h | h
        · exact absurd h.symm hx
        · exact h)
      refine ⟨x :: a, b, by rw [e]; rfl, fun hm => ?_⟩
      rcases List.mem_cons.1 hm with h1 | h1
      · exact hx h1.symm
      · exact hn h1
theorem ext0 (l : Txt) (b : Nat) : (ByteArray.mk l.toArray).extract 0 b = ⟨(l.take b).toArray⟩ := by
  apply Go.WideShapes.bytes_inj
  simp [List.extract_eq_take_drop]
theorem extN (l : Txt) (a : Nat) : (ByteArray.mk l.toArray).extract a l.length = ⟨(l.drop a).toArray⟩ := by
  apply Go.WideShapes.bytes_inj
  simp [List.extract_eq_take_drop]
  rw [List.take_of_length_le (by rw [List.length_drop]; exact Nat.le_refl _)]

/-- What a round keeps of the iterator's three cells. -/
structure Kp3 (b1 b2 b3 : Nat) (A B : World) : Prop where
  k1 : B.heap[b1]? = A.heap[b1]?
  k2 : B.heap[b2]? = A.heap[b2]?
  k3 : B.heap[b3]? = A.heap[b3]?
theorem Kp3.trans {b1 b2 b3 : Nat} {A B C : World} (h : Kp3 b1 b2 b3 A B) (k : Kp3 b1 b2 b3 B C) : Kp3 b1 b2 b3 A C := ⟨k.k1.trans h.k1, k.k2.trans h.k2, k.k3.trans h.k3⟩
def leftC (b1 : Nat) (W : World) : Nat := match W.cell? ⟨b1, 0, none⟩ with
  | some (.string s) => s.size
  | _ => 0
theorem leftC_of {W : World} {b1 : Nat} {l : Txt} (h : Blk W b1 9 #[.string ⟨l.toArray⟩]) : leftC b1 W = l.length := by
  unfold leftC
  rw [h.cell 0]
  rfl

section
attribute [local go_sem] Oper.semAt_some
set_option maxRecDepth 100000 in
set_option maxHeartbeats 4000000 in
theorem splitseq_in (m : Nat) (hm : 1 ≤ m) (b1 b2 b3 : Nat) (h12 : b1 ≠ b2) (h13 : b1 ≠ b3) (l0 : Txt) (hlen : l0.length ≤ 1000000000) (W : World)
    (c1 : Blk W b1 9 #[.string ⟨l0.toArray⟩]) (c2 : Blk W b2 9 #[.string ⟨#[47]⟩]) (c3 : Blk W b3 3 #[.int .i64 0]) :
    SeqC Fence.wide m Tryz.prog 121 #[.pointer (some ⟨b2, 0, none⟩), .pointer (some ⟨b1, 0, none⟩), .pointer (some ⟨b3, 0, none⟩)] (fun x : Txt => #[.string ⟨x.toArray⟩]) (Kp3 b1 b2 b3) (fun xs => xs = splitS l0) (fun pre => pre <+: splitS l0) b1 W := by
  intro l J Jx hJc hJd hY h0
  refine callsIn_of_wp Tryz.func121 rfl trivial ?_ rfl
  simp only [Tryz.ntmps121, List.size_toArray, List.length_cons, List.length_nil, Nat.reduceAdd, Nat.reduceSub, Array.replicate_succ, Array.replicate_zero, List.push_toArray, List.append_toArray, List.nil_append, List.cons_append]
  have d2 := c2.cell 0
  have d1 := c1.cell 0
  simp only [List.getElem?_toArray, List.getElem?_cons_zero] at d1 d2
  have C1 := Lib.hid c1
  have C2 := Lib.hid c2
  have C3 := Lib.hid c3
  have HY := Lib.hid hY
  have HJC := Lib.hid hJc
  clear c1 c2 c3 hY hJc
  gi_wp2
  gi_loopw [7] (fun t wr => ∃ (pre : List Txt) (rest : Txt), splitS l0 = pre ++ splitS rest ∧ rest.length ≤ l0.length ∧ Blk wr b1 9 #[.string ⟨rest.toArray⟩] ∧ Blk wr b2 9 #[.string ⟨#[47]⟩] ∧ Blk wr b3 3 #[.int .i64 0] ∧ J pre wr) (fun _ wr => leftC b1 wr)
  case atStart => exact ⟨[], l0, rfl, Nat.le_refl _, C1.out, C2.out, C3.out, h0⟩
  case round =>
    obtain ⟨pre, rest, hsp, hrl, e1, e2, e3, hJ⟩ := hrel
    have f1 := e1.cell 0
    have f2 := e2.cell 0
    have f3 := e3.cell 0
    simp only [List.getElem?_toArray, List.getElem?_cons_zero] at f1 f2 f3
    have hix := callsIn_wide (n := m - 1) |>.2 (Tryz.strings_Index_one ⟨rest.toArray⟩ 47 wr)
    have hd : (ByteArray.mk rest.toArray).data.toList = rest := rfl
    rw [hd] at hix
    clear hd
    have HSP := Lib.hid hsp
    have HRL := Lib.hid hrl
    have HE := Lib.hid (And.intro e1 (And.intro e2 e3))
    clear hsp hrl e1 e2 e3
    by_cases hmem : (47 : UInt8) ∈ rest
    · obtain ⟨a, b, rfl, hna⟩ := cut_of_mem rest hmem
      rw [index_cut a b hna] at hix
      have HSP2 := Lib.hid (show splitS l0 = (pre ++ [a]) ++ splitS b by rw [HSP.out, splitS_cut a b hna]; simp)
      have hN : pre ++ [a] <+: splitS l0 := ⟨splitS b, HSP2.out.symm⟩
      obtain ⟨fn, tmps, assign, body, hy, hR⟩ := HY.out pre a wr hJ hN
      have hx1 : (ByteArray.mk (a ++ 47 :: b).toArray).extract 0 a.length = ⟨a.toArray⟩ := by rw [ext0, List.take_left]
      have hx2 : (ByteArray.mk (a ++ 47 :: b).toArray).extract (a.length + 1) (a.length + (b.length + 1)) = ⟨b.toArray⟩ := by
        have h1 := extN (a ++ 47 :: b) (a.length + 1)
        rw [show (a ++ 47 :: b).length = a.length + (b.length + 1) by simp] at h1
        rw [h1]
        congr 2
        rw [show a ++ 47 :: b = (a ++ [47]) ++ b by simp]
        exact List.drop_left' (by simp)
      have HX2 := Lib.hid hx2
      have hal : a.length ≤ 1000000000 := by have := HRL.out; simp at this; omega
      have hbl : b.length ≤ 1000000000 := by have := HRL.out; simp at this; omega
      have HBL := Lib.hid (show b.length ≤ l0.length by have := HRL.out; simp at this; omega)
      clear hx2 hmem hna hN
      gi_wp2_with (refine ⟨trivial, ?_⟩; gi_at_call 123; refine hix.mono ?_; clear hix; rintro e W2 ⟨rfl, hW2⟩; obtain rfl := hW2.symm)
      refine hR.mono ?_
      rintro e W3 (⟨rfl, hJ3, hk3⟩ | ⟨rfl, hJx3⟩)
      · have E1 := Lib.hid (show Blk W3 b1 9 #[.string ⟨(a ++ 47 :: b).toArray⟩] from hk3.k1.trans HE.out.1)
        have E2 := Lib.hid (show Blk W3 b2 9 #[.string ⟨#[47]⟩] from hk3.k2.trans HE.out.2.1)
        have E3 := Lib.hid (show Blk W3 b3 3 #[.int .i64 0] from hk3.k3.trans HE.out.2.2)
        have g1 := E1.out.cell 0
        have g2 := E2.out.cell 0
        have gf := E1.out.frozen 0
        simp only [List.getElem?_toArray, List.getElem?_cons_zero] at g1 g2
        have hx2 := HX2.out
        have hE4 := Lib.hid (And.intro (E1.out.set_ 0 (.string ⟨b.toArray⟩)) (And.intro (E2.out.far (p := ⟨b1, 0, none⟩) (fun e => h12 e.symm) (.string ⟨b.toArray⟩)) (E3.out.far (p := ⟨b1, 0, none⟩) (fun e => h13 e.symm) (.string ⟨b.toArray⟩))))
        have hlt1 := E1.out.lt
        clear f1 f2 f3 hy
        gi_wp2
        go_roundw
        case rel => exact ⟨pre ++ [a], b, HSP2.out, HBL.out, hE4.out.1, hE4.out.2.1, hE4.out.2.2, HJC.out _ _ _ hJ3⟩
        case measure =>
          rw [leftC_of (show Blk (W3.setCell ⟨b1, 0, none⟩ (.string ⟨b.toArray⟩)) b1 9 #[.string ⟨b.toArray⟩] from hE4.out.1), leftC_of HE.out.1]
          simp
          omega
      · gi_wp2
        refine bodyPost_ret (results_none rfl _ _ _) rfl ?_
        exact ⟨⟨_, rfl⟩, .inr ⟨pre ++ [a], ⟨splitS b, HSP2.out.symm⟩, hJx3⟩⟩
    · rw [index_none rest hmem] at hix
      have HSP2 := Lib.hid (show splitS l0 = pre ++ [rest] by rw [HSP.out, splitS_none rest hmem])
      have hN : pre ++ [rest] <+: splitS l0 := ⟨[], by rw [HSP2.out]; simp⟩
      obtain ⟨fn, tmps, assign, body, hy, hR⟩ := HY.out pre rest wr hJ hN
      clear hmem hN
      gi_wp2_with (refine ⟨trivial, ?_⟩; gi_at_call 123; refine hix.mono ?_; clear hix; rintro e W2 ⟨rfl, hW2⟩; obtain rfl := hW2.symm)
      refine hR.mono ?_
      rintro e W3 (⟨rfl, hJ3, hk3⟩ | ⟨rfl, hJx3⟩)
      · gi_wp2
        go_end0
        exact ⟨⟨_, rfl⟩, .inl ⟨pre ++ [rest], HSP2.out.symm, hJ3⟩⟩
      · gi_wp2
        go_end0
        exact ⟨⟨_, rfl⟩, .inr ⟨pre ++ [rest], ⟨[], by rw [HSP2.out]; simp⟩, hJx3⟩⟩
end

/-- The world behind SplitSeq: its three cells. -/
def splitW (w : World) (s : ByteArray) : World := ((w.alloc (.cells #[.string s] 9)).alloc (.cells #[.string ⟨#[47]⟩] 9)).alloc (.cells #[.int .i64 0] 3)
theorem splitW_facts (w : World) (s : ByteArray) : Blk (splitW w s) w.heap.size 9 #[.string s] ∧ Blk (splitW w s) (w.heap.size + 1) 9 #[.string ⟨#[47]⟩] ∧ Blk (splitW w s) (w.heap.size + 2) 3 #[.int .i64 0] ∧ Below w.heap.size w (splitW w s) ∧ (splitW w s).heap.size = w.heap.size + 3 := by
  unfold splitW
  refine ⟨((Blk.new _ _ _).alloc _).alloc _, ?_, ?_, (((Below.refl _ w).alloc (Nat.le_refl _) _).alloc (by simp) _).alloc (by simp; omega) _, by simp⟩
  · have := Blk.new (w.alloc (.cells #[.string s] 9)) 9 #[.string ⟨#[47]⟩]
    rw [World.size_alloc] at this
    exact this.alloc _
  · have := Blk.new ((w.alloc (.cells #[.string s] 9)).alloc (.cells #[.string ⟨#[47]⟩] 9)) 3 #[.int .i64 0]
    rwa [World.size_alloc, World.size_alloc] at this
theorem split_any (s : ByteArray) (w : World) : Calls Tryz.prog 65 #[.string s, .string ⟨#[47]⟩] w fun e w' =>
    e = .returned (.func (.func 121) #[] #[.pointer (some ⟨w.heap.size + 1, 0, none⟩), .pointer (some ⟨w.heap.size, 0, none⟩), .pointer (some ⟨w.heap.size + 2, 0, none⟩)]) ∧ w' = splitW w s := by
  unfold splitW
  go_enter Tryz.func65, Tryz.ntmps65
  go_wp2
  go_ret
  exact ⟨rfl, rfl⟩
end Go.Proofs.YtibndaianhlcaaaGreatDoor
namespace Go.Proofs.YtibndaianhlcaaaGreatDoor
set_option linter.unusedVariables false
set_option linter.unusedSimpArgs false

/-- The steps of a text, as they are read; none: a line that is none. -/
def readL (num : Txt → Option Nat) : Nat → List ActP → Txt → Option (List ActP)
  | 0, out, _ => some out
  | f + 1, out, rest => if rest = wEnd ∨ rest = [] then some out else match readA num out rest with
    | none => none
    | some (o, r) => readL num f o r
/-- The steps of a script; none: it is no script. -/
def parseP (num : Txt → Option Nat) (dec : Nat → Txt) (t : Txt) : Option (List ActP) := match readL num (t.length + 1) [] t with
  | none => none
  | some l => if textA dec l = some t then some l else none
theorem parse_text {num : Txt → Option Nat} {dec : Nat → Txt} {t : Txt} {l : List ActP} (h : parseP num dec t = some l) : textA dec l = some t := by
  unfold parseP at h
  split at h
  · cases h
  · split at h
    · injection h with h
      subst h
      assumption
    · cases h
theorem text_ends {dec : Nat → Txt} {l : List ActP} {t : Txt} (h : textA dec l = some t) : ∃ s, t = s ++ wEnd := by
  unfold textA at h
  split at h
  · injection h with h
    exact ⟨_, h.symm⟩
  · cases h
/-- A script whose last byte is cut away is none. -/
theorem parse_short {num : Txt → Option Nat} {dec : Nat → Txt} {l : List ActP} {t : Txt} (h : textA dec l = some t) : parseP num dec t.dropLast = none := by
  cases hp : parseP num dec t.dropLast with
  | none => rfl
  | some m =>
    obtain ⟨s, rfl⟩ := text_ends h
    obtain ⟨u, hu⟩ := text_ends (parse_text hp)
    have e1 : (s ++ wEnd).dropLast = (s ++ [101, 110]) ++ [100] := by
      have : s ++ wEnd = ((s ++ [101, 110]) ++ [100]) ++ [10] := by simp [wEnd]
      rw [this, List.dropLast_concat]
    have e2 : u ++ wEnd = (u ++ [101, 110, 100]) ++ [10] := by simp [wEnd]
    rw [e1, e2] at hu
    exact absurd (List.append_inj' hu rfl).2 (by decide)
theorem front_word (w r : Txt) (hw : (32 : UInt8) ∉ w) (hl : (10 : UInt8) ∉ w ++ 32 :: r) (t : Txt) : frontT 10 ((w ++ 32 :: r) ++ 10 :: t) = w ++ 32 :: r ∧ afterT 10 ((w ++ 32 :: r) ++ 10 :: t) = t ∧ frontT 32 (w ++ 32 :: r) = w ∧ afterT 32 (w ++ 32 :: r) = r := by
  obtain ⟨h1, h2⟩ := front_line 10 (w ++ 32 :: r) t hl
  obtain ⟨h3, h4⟩ := front_line 32 w r hw
  exact ⟨h1, h2, h3, h4⟩
/-- A step of one line is read back. -/
theorem read_plain (num : Txt → Option Nat) (out : List ActP) (w n t : Txt) (k : Int) (hw : (w = wStop ∧ k = 1) ∨ (w = wRemove ∧ k = 2) ∨ (w = wDrop ∧ k = 3) ∨ (w = wUser ∧ k = 5)) (hn : (10 : UInt8) ∉ n) :
    readA num out ((w ++ 32 :: n) ++ 10 :: t) = some (out ++ [⟨k, n, ent0, srv0⟩], t) := by
  have hc : (32 : UInt8) ∉ w ∧ (10 : UInt8) ∉ w := by
    rcases hw with ⟨rfl, _⟩ | ⟨rfl, _⟩ | ⟨rfl, _⟩ | ⟨rfl, _⟩ <;> decide
  obtain ⟨h1, h2, h3, h4⟩ := front_word w n hc.1 (by
    intro hm
    rcases List.mem_append.1 hm with hm | hm
    · exact hc.2 hm
    · rcases List.mem_cons.1 hm with hm | hm
      · revert hm; decide
      · exact hn hm) t
  unfold readA
  simp only [h1, h2, h3, h4]
  rcases hw with ⟨rfl, rfl⟩ | ⟨rfl, rfl⟩ | ⟨rfl, rfl⟩ | ⟨rfl, rfl⟩
  · rw [if_pos rfl]
  · rw [if_neg (by decide), if_pos rfl]
  · rw [if_neg (by decide), if_neg (by decide), if_pos rfl]
  · rw [if_neg (by decide), if_neg (by decide), if_neg (by decide), if_pos rfl]
theorem read_start (num : Txt → Option Nat) (out : List ActP) (n t : Txt) (hn : (10 : UInt8) ∉ n) : readA num out ((wStart ++ 32 :: n) ++ 10 :: t) = some (out ++ [⟨6, n, ent0, ⟨n, [], [], []⟩⟩], t) := by
  obtain ⟨h1, h2, h3, h4⟩ := front_word wStart n (by decide) (by
    intro hm
    rcases List.mem_append.1 hm with hm | hm
    · revert hm; decide
    · rcases List.mem_cons.1 hm with hm | hm
      · revert hm; decide
      · exact hn hm) t
  unfold readA
  simp only [h1, h2, h3, h4]
  rw [if_neg (by decide), if_neg (by decide), if_neg (by decide), if_neg (by decide)]
  exact if_pos trivial
/-- A line of a unit is read back. -/
theorem read_more (num : Txt → Option Nat) (out : List ActP) (a : ActP) (w r t : Txt) (hw : w = wRun ∨ w = wReq ∨ w = wAft) (hr : (10 : UInt8) ∉ r) (ha : a.kind = 6) :
    readA num (out ++ [a]) ((w ++ 32 :: r) ++ 10 :: t) = some (out ++ [⟨a.kind, a.name, a.file, (moreU a.unit w r).1⟩], t) := by
  have hc : (32 : UInt8) ∉ w ∧ (10 : UInt8) ∉ w := by
    rcases hw with rfl | rfl | rfl <;> decide
  obtain ⟨h1, h2, h3, h4⟩ := front_word w r hc.1 (by
    intro hm
    rcases List.mem_append.1 hm with hm | hm
    · exact hc.2 hm
    · rcases List.mem_cons.1 hm with hm | hm
      · revert hm; decide
      · exact hr hm) t
  unfold readA
  simp only [h1, h2, h3, h4]
  have hm : (moreU a.unit w r).2 = true := by
    unfold moreU
    rcases hw with rfl | rfl | rfl
    · rw [if_pos rfl]
    · rw [if_neg (by decide), if_pos rfl]
    · rw [if_neg (by decide), if_neg (by decide), if_pos rfl]
  have hn : w ≠ wStop ∧ w ≠ wRemove ∧ w ≠ wDrop ∧ w ≠ wUser ∧ w ≠ wStart ∧ w ≠ wFile := by
    rcases hw with rfl | rfl | rfl <;> decide
  rw [if_neg hn.1, if_neg hn.2.1, if_neg hn.2.2.1, if_neg hn.2.2.2.1, if_neg hn.2.2.2.2.1, if_neg hn.2.2.2.2.2, List.getLast?_concat]
  simp only
  rw [if_pos ⟨ha, hm⟩, List.dropLast_concat]
theorem split_two {a b c : Txt} (ha : (32 : UInt8) ∉ a) (hb : (32 : UInt8) ∉ b) (hc : (32 : UInt8) ∉ c) : splitN 32 (a ++ 32 :: (b ++ 32 :: c)) = [a, b, c] := by
  rw [splitN_line 32 a _ ha, splitN_line 32 b _ hb]
  have e : ∀ l : Txt, (32 : UInt8) ∉ l → splitN 32 l = [l] := fun l => by
    induction l with
    | nil => intro _; rfl
    | cons x l ih => intro h; rw [splitN, if_neg (fun e => h (by rw [e]; exact List.mem_cons_self)), ih (fun hm => h (List.mem_cons_of_mem _ hm))]
  rw [e c hc]
/-- A file's step is read back, its bytes with it. -/
theorem read_file (num : Txt → Option Nat) (out : List ActP) (x : Ent) (d t : Txt) (hk : x.kind = 1 ∨ x.kind = 3) (hp : (32 : UInt8) ∉ x.path ∧ (10 : UInt8) ∉ x.path) (hd : (32 : UInt8) ∉ d ∧ (10 : UInt8) ∉ d) (hl : d.length ≤ 4) (hn : num d = some x.data.length) :
    readA num out ((wFile ++ 32 :: ((if x.kind = 3 then [108] else [102]) ++ 32 :: (x.path ++ 32 :: d))) ++ 10 :: (x.data ++ t)) = some (out ++ [⟨4, x.path, x, srv0⟩], t) := by
  obtain ⟨kk, hkk⟩ : ∃ kk : Txt, kk = (if x.kind = 3 then [108] else [102]) := ⟨_, rfl⟩
  have hkc : (32 : UInt8) ∉ kk ∧ (10 : UInt8) ∉ kk := by
    rw [hkk]
    split <;> decide
  rw [← hkk]
  obtain ⟨h1, h2, h3, h4⟩ := front_word wFile (kk ++ 32 :: (x.path ++ 32 :: d)) (by decide) (by
    intro hm
    simp only [List.mem_append, List.mem_cons] at hm
    rcases hm with hm | hm | hm | hm | hm | hm | hm
    · revert hm; decide
    · revert hm; decide
    · exact hkc.2 hm
    · revert hm; decide
    · exact hp.2 hm
    · revert hm; decide
    · exact hd.2 hm) (x.data ++ t)
  unfold readA
  simp only [h1, h2, h3, h4]
  have e1 : wFile ≠ wStop ∧ wFile ≠ wRemove ∧ wFile ≠ wDrop ∧ wFile ≠ wUser ∧ wFile ≠ wStart := by decide
  rw [if_neg e1.1, if_neg e1.2.1, if_neg e1.2.2.1, if_neg e1.2.2.2.1, if_neg e1.2.2.2.2, split_two hkc.1 hp.1 hd.1]
  simp only [if_pos hl, hn]
  have e2 : (if kk = [108] then (3 : Int) else 1) = x.kind := by
    rw [hkk]
    rcases hk with hk | hk
    · rw [hk]; rfl
    · rw [hk]; rfl
  simp [e2]
theorem readL_step {num : Txt → Option Nat} {f : Nat} {out o : List ActP} {rest r : Txt} (h : readA num out rest = some (o, r)) (hne : ¬ (rest = wEnd ∨ rest = [])) : readL num (f + 1) out rest = readL num f o r := by
  rw [readL, if_neg hne, h]
theorem readL_end {num : Txt → Option Nat} {f : Nat} {out : List ActP} : readL num f out wEnd = some out := by
  cases f with
  | zero => rfl
  | succ f => unfold readL; rw [if_pos (.inl rfl)]
theorem not_end {c : UInt8} {l : Txt} (h : c ≠ 101) : ¬ (c :: l = wEnd ∨ c :: l = []) := fun h9 => by
  rcases h9 with h9 | h9
  · unfold wEnd at h9
    injection h9 with h9
    exact h h9
  · cases h9
/-- A unit's lines of one kind are read back. -/
theorem readL_more (num : Txt → Option Nat) (w : Txt) (hw : w = wRun ∨ w = wReq ∨ w = wAft) : ∀ (ns : List Txt) (f : Nat) (out : List ActP) (a : ActP) (t : Txt), a.kind = 6 → (∀ n ∈ ns, (10 : UInt8) ∉ n) →
    readL num (f + ns.length) (out ++ [a]) (ns.flatMap (fun n => (w ++ [32]) ++ n ++ [10]) ++ t) = readL num f (out ++ [⟨a.kind, a.name, a.file, ns.foldl (fun v n => (moreU v w n).1) a.unit⟩]) t
  | [], f, out, a, t, ha, _ => by simp
  | n :: ns, f, out, a, t, ha, h => by
    have e : (n :: ns).flatMap (fun n => (w ++ [32]) ++ n ++ [10]) ++ t = (w ++ 32 :: n) ++ 10 :: (ns.flatMap (fun n => (w ++ [32]) ++ n ++ [10]) ++ t) := by simp
    have hne : ¬ ((w ++ 32 :: n) ++ 10 :: (ns.flatMap (fun n => (w ++ [32]) ++ n ++ [10]) ++ t) = wEnd ∨ (w ++ 32 :: n) ++ 10 :: (ns.flatMap (fun n => (w ++ [32]) ++ n ++ [10]) ++ t) = []) := by
      rcases hw with rfl | rfl | rfl
      · exact not_end (by decide)
      · exact not_end (by decide)
      · exact not_end (by decide)
    rw [e, List.length_cons, ← Nat.add_assoc, readL_step (read_more num out a w n _ hw (h n List.mem_cons_self) ha) hne]
    exact readL_more num w hw ns f out ⟨a.kind, a.name, a.file, (moreU a.unit w n).1⟩ t ha (fun m hm => h m (List.mem_cons_of_mem _ hm))
/-- A unit's step is read back. -/
theorem readL_unit (num : Txt → Option Nat) (f : Nat) (out : List ActP) (u : Srv) (hc : Calm u) (t : Txt) :
    readL num (f + (2 + u.req.length + u.aft.length)) out ((wStart ++ 32 :: u.name) ++ 10 :: (linesU u ++ t)) = readL num f (out ++ [⟨6, u.name, ent0, u⟩]) t := by
  obtain ⟨c1, c2, c3, c4⟩ := hc
  rw [show f + (2 + u.req.length + u.aft.length) = (f + u.aft.length + u.req.length + 1) + 1 by omega, readL_step (read_start num out u.name (linesU u ++ t) c1) (not_end (by decide))]
  have e1 : linesU u ++ t = [u.start].flatMap (fun n => (wRun ++ [32]) ++ n ++ [10]) ++ (u.req.flatMap (fun n => (wReq ++ [32]) ++ n ++ [10]) ++ (u.aft.flatMap (fun n => (wAft ++ [32]) ++ n ++ [10]) ++ t)) := by
    simp [linesU, wRun, wReq, wAft]
  rw [e1]
  have k1 := readL_more num wRun (.inl rfl) [u.start] (f + u.aft.length + u.req.length) out ⟨6, u.name, ent0, ⟨u.name, [], [], []⟩⟩ (u.req.flatMap (fun n => (wReq ++ [32]) ++ n ++ [10]) ++ (u.aft.flatMap (fun n => (wAft ++ [32]) ++ n ++ [10]) ++ t)) rfl (by simpa using c2)
  have k2 := readL_more num wReq (.inr (.inl rfl)) u.req (f + u.aft.length) out ⟨6, u.name, ent0, ⟨u.name, u.start, [], []⟩⟩ (u.aft.flatMap (fun n => (wAft ++ [32]) ++ n ++ [10]) ++ t) rfl c3
  have k3 := readL_more num wAft (.inr (.inr rfl)) u.aft f out ⟨6, u.name, ent0, ⟨u.name, u.start, u.req, []⟩⟩ t rfl c4
  rw [fold_req] at k2
  rw [fold_aft] at k3
  simp only [List.nil_append] at k2 k3
  have e2 : [u.start].foldl (fun v n => (moreU v wRun n).1) (⟨u.name, [], [], []⟩ : Srv) = ⟨u.name, u.start, [], []⟩ := rfl
  rw [e2] at k1
  exact k1.trans (k2.trans k3)
/-- A number's text is read as that number. -/
structure DecOk (num : Txt → Option Nat) (dec : Nat → Txt) (n : Nat) : Prop where
  blank : (32 : UInt8) ∉ dec n
  line : (10 : UInt8) ∉ dec n
  short : (dec n).length ≤ 4
  back : num (dec n) = some n
theorem split_has {c : UInt8} : ∀ {l : Txt}, c ∈ l → c = 47 ∨ ∃ p ∈ splitS l, c ∈ p := fun {l} h => by
  by_cases hm : (47 : UInt8) ∈ l
  · have key : ∀ (k : Nat) (l : Txt), l.length ≤ k → c ∈ l → c = 47 ∨ ∃ p ∈ splitS l, c ∈ p := fun k => by
      induction k with
      | zero => intro l hl hc; rw [List.eq_nil_of_length_eq_zero (by omega : l.length = 0)] at hc; cases hc
      | succ k ih =>
        intro l hl hc
        by_cases hm : (47 : UInt8) ∈ l
        · obtain ⟨a, b, rfl, hna⟩ := cut_of_mem l hm
          rw [splitS_cut a b hna]
          rcases List.mem_append.1 hc with hc | hc
          · exact .inr ⟨a, List.mem_cons_self, hc⟩
          · rcases List.mem_cons.1 hc with hc | hc
            · exact .inl hc
            · rcases ih b (by simp at hl; omega) hc with h1 | ⟨p, hp, hcp⟩
              · exact .inl h1
              · exact .inr ⟨p, List.mem_cons_of_mem _ hp, hcp⟩
        · rw [splitS_none l hm]
          exact .inr ⟨l, List.mem_cons_self, hc⟩
    exact key l.length l (Nat.le_refl _) h
  · rw [splitS_none l hm]
    exact .inr ⟨l, List.mem_cons_self, h⟩
theorem entry_calm {x : Ent} (h : entryB x = true) : (32 : UInt8) ∉ x.path ∧ (10 : UInt8) ∉ x.path := by
  unfold entryB at h
  simp only [Bool.and_eq_true] at h
  have hall := List.all_eq_true.1 h.1.2
  have key : ∀ c : UInt8, c ≠ 47 → letterB c = false → c ∉ x.path := fun c hc hl hm => by
    rcases split_has hm with h1 | ⟨p, hp, hcp⟩
    · exact hc h1
    · have hn := hall p hp
      unfold nameB at hn
      rw [Bool.and_eq_true] at hn
      have := List.all_eq_true.1 hn.2 c hcp
      rw [hl] at this
      cases this
  exact ⟨key 32 (by decide) (by decide), key 10 (by decide) (by decide)⟩
def costA (a : ActP) : Nat := if a.kind = 6 then 2 + a.unit.req.length + a.unit.aft.length else 1
theorem right1_entry {x : Ent} (h : rightB [x] = true) : entryB x = true := by
  have h1 := (right_fits h).2 0 (by simp)
  unfold fitsB at h1
  rw [Bool.and_eq_true] at h1
  exact h1.1
/-- What a step that may be looks like. -/
theorem may_shape {a : ActP} (h : mayA a = true) : ((a.kind = 1 ∨ a.kind = 3 ∨ a.kind = 5) ∧ nameB a.name = true ∧ a = ⟨a.kind, a.name, ent0, srv0⟩) ∨ (rightB [⟨a.name, 1, []⟩] = true ∧ a = ⟨2, a.name, ent0, srv0⟩) ∨ (rightB [a.file] = true ∧ a = ⟨4, a.file.path, a.file, srv0⟩) ∨ (mayU a.unit = true ∧ a = ⟨6, a.unit.name, ent0, a.unit⟩) := by
  unfold mayA at h
  rw [Bool.and_eq_true] at h
  obtain ⟨he, hm⟩ := h
  unfold emptyA at he
  rw [Bool.and_eq_true, Bool.or_eq_true, Bool.or_eq_true] at he
  obtain ⟨he1, he2⟩ := he
  obtain ⟨kind, name, ⟨p, fk, fd⟩, ⟨un, us, rq, af⟩⟩ := a
  simp only [decide_eq_true_iff] at he1 he2 hm
  by_cases k135 : kind = 1 ∨ kind = 3 ∨ kind = 5
  · rw [if_pos k135] at hm
    obtain ⟨rfl, rfl, rfl⟩ := he1.resolve_left (by omega)
    obtain ⟨rfl, rfl, rfl, rfl⟩ := he2.resolve_left (by omega)
    exact .inl ⟨k135, hm, rfl⟩
  rw [if_neg k135] at hm
  by_cases k2 : kind = 2
  · subst k2
    rw [if_pos rfl] at hm
    obtain ⟨rfl, rfl, rfl⟩ := he1.resolve_left (by decide)
    obtain ⟨rfl, rfl, rfl, rfl⟩ := he2.resolve_left (by decide)
    exact .inr (.inl ⟨hm, rfl⟩)
  rw [if_neg k2] at hm
  by_cases k4 : kind = 4
  · subst k4
    rw [if_pos rfl, Bool.and_eq_true, decide_eq_true_iff] at hm
    obtain ⟨rfl, hm⟩ := hm
    obtain ⟨rfl, rfl, rfl, rfl⟩ := he2.resolve_left (by decide)
    exact .inr (.inr (.inl ⟨hm, rfl⟩))
  rw [if_neg k4] at hm
  by_cases k6 : kind = 6
  · subst k6
    rw [if_pos rfl, Bool.and_eq_true, decide_eq_true_iff] at hm
    obtain ⟨rfl, hm⟩ := hm
    obtain ⟨rfl, rfl, rfl⟩ := he1.resolve_left (by decide)
    exact .inr (.inr (.inr ⟨hm, rfl⟩))
  · rw [if_neg k6] at hm
    cases hm
theorem entry_short {x : Ent} (h : entryB x = true) : x.data.length ≤ 2048 ∧ (x.kind = 1 ∨ x.kind = 3) := by
  unfold entryB at h
  simp only [Bool.and_eq_true, decide_eq_true_eq] at h
  refine ⟨h.1.1.1.2, ?_⟩
  by_cases h3 : x.kind = 3
  · exact .inr h3
  · have h9 := h.2
    rw [if_neg h3] at h9
    exact .inl (by simpa using h9)
/-- A step that may be is read back. -/
theorem read_act {num : Txt → Option Nat} {dec : Nat → Txt} (hd : ∀ n, n ≤ 2048 → DecOk num dec n) {a : ActP} (ha : mayA a = true) (f : Nat) (out : List ActP) (t : Txt) :
    readL num (f + costA a) out (headA dec a ++ 10 :: (bodyA a ++ t)) = readL num f (out ++ [a]) t := by
  rcases may_shape ha with ⟨hk, hn, e⟩ | ⟨hr, e⟩ | ⟨hr, e⟩ | ⟨hm, e⟩
  · rw [e]
    generalize a.name = n at *
    rcases hk with hk | hk | hk
    · rw [hk]
      exact readL_step (read_plain num out wStop n t 1 (.inl ⟨rfl, rfl⟩) (name_calm hn)) (not_end (by decide))
    · rw [hk]
      exact readL_step (read_plain num out wDrop n t 3 (.inr (.inr (.inl ⟨rfl, rfl⟩))) (name_calm hn)) (not_end (by decide))
    · rw [hk]
      exact readL_step (read_plain num out wUser n t 5 (.inr (.inr (.inr ⟨rfl, rfl⟩))) (name_calm hn)) (not_end (by decide))
  · rw [e]
    generalize a.name = n at *
    exact readL_step (read_plain num out wRemove n t 2 (.inr (.inl ⟨rfl, rfl⟩)) (entry_calm (right1_entry hr)).2) (not_end (by decide))
  · rw [e]
    generalize a.file = x at *
    have hx := right1_entry hr
    obtain ⟨hs, hk⟩ := entry_short hx
    have hD := hd x.data.length hs
    have hh : headA dec ⟨4, x.path, x, srv0⟩ ++ 10 :: (bodyA ⟨4, x.path, x, srv0⟩ ++ t) = (wFile ++ 32 :: ((if x.kind = 3 then [108] else [102]) ++ 32 :: (x.path ++ 32 :: dec x.data.length))) ++ 10 :: (x.data ++ t) := by
      have h1 : headA dec ⟨4, x.path, x, srv0⟩ = wFile ++ 32 :: (if x.kind = 3 then [108, 32] else [102, 32]) ++ x.path ++ 32 :: dec x.data.length := rfl
      have h2 : bodyA ⟨4, x.path, x, srv0⟩ = x.data := rfl
      rw [h1, h2]
      split <;> simp
    rw [hh]
    exact readL_step (read_file num out x (dec x.data.length) t hk (entry_calm hx) ⟨hD.blank, hD.line⟩ hD.short hD.back) (not_end (by decide))
  · rw [e]
    generalize a.unit = u at *
    exact readL_unit num f out u (may_calm hm) t
/-- A script's steps are read back. -/
theorem readL_script {num : Txt → Option Nat} {dec : Nat → Txt} (hd : ∀ n, n ≤ 2048 → DecOk num dec n) : ∀ (l : List ActP) (f : Nat) (out : List ActP), l.all mayA = true →
    readL num (f + (l.map costA).sum) out (l.flatMap (fun a => headA dec a ++ 10 :: bodyA a) ++ wEnd) = some (out ++ l)
  | [], f, out, _ => by simp [readL_end]
  | a :: l, f, out, h => by
    rw [List.all_cons, Bool.and_eq_true] at h
    have e : (a :: l).flatMap (fun a => headA dec a ++ 10 :: bodyA a) ++ wEnd = headA dec a ++ 10 :: (bodyA a ++ (l.flatMap (fun a => headA dec a ++ 10 :: bodyA a) ++ wEnd)) := by simp
    rw [e, List.map_cons, List.sum_cons, show f + (costA a + (l.map costA).sum) = (f + (l.map costA).sum) + costA a by omega, read_act hd h.1, readL_script hd l f (out ++ [a]) h.2]
    simp
theorem flat_long (w : Txt) : ∀ l : List Txt, l.length ≤ (l.flatMap (fun n => w ++ n ++ [10])).length
  | [] => by simp
  | n :: l => by
    have ih := flat_long w l
    rw [List.flatMap_cons, List.length_append, List.length_cons]
    have : 1 ≤ (w ++ n ++ [10]).length := by simp; omega
    omega
theorem cost_le (dec : Nat → Txt) (a : ActP) : costA a ≤ (headA dec a ++ 10 :: bodyA a).length := by
  unfold costA
  by_cases h6 : a.kind = 6
  · rw [if_pos h6]
    have hb : bodyA a = linesU a.unit := by unfold bodyA; rw [h6, if_neg (by decide), if_pos rfl]
    have h1 := flat_long [114, 101, 113, 117, 105, 114, 101, 115, 32] a.unit.req
    have h2 := flat_long [97, 102, 116, 101, 114, 32] a.unit.aft
    rw [List.length_append, List.length_cons, hb]
    unfold linesU
    simp only [List.length_append, List.length_cons, List.length_nil]
    omega
  · rw [if_neg h6, List.length_append, List.length_cons]
    omega
theorem costs_le (dec : Nat → Txt) : ∀ l : List ActP, (l.map costA).sum ≤ (l.flatMap (fun a => headA dec a ++ 10 :: bodyA a)).length
  | [] => by simp
  | a :: l => by
    have ih := costs_le dec l
    have h := cost_le dec a
    rw [List.map_cons, List.sum_cons, List.flatMap_cons, List.length_append]
    omega
/-- The script of some steps is read as those steps. -/
theorem parse_back {num : Txt → Option Nat} {dec : Nat → Txt} (hd : ∀ n, n ≤ 2048 → DecOk num dec n) {l : List ActP} {t : Txt} (h : textA dec l = some t) : parseP num dec t = some l := by
  have h0 := h
  unfold textA at h0
  split at h0
  · rename_i hc
    injection h0 with h0
    have hle := costs_le dec l
    have hr := readL_script hd l (t.length + 1 - (l.map costA).sum) [] hc.2
    have hlt : (l.map costA).sum ≤ t.length := by
      rw [← h0, List.length_append]
      omega
    rw [show t.length + 1 - (l.map costA).sum + (l.map costA).sum = t.length + 1 by omega, h0, List.nil_append] at hr
    unfold parseP
    rw [hr]
    simp only
    rw [if_pos h]
  · cases h0
end Go.Proofs.YtibndaianhlcaaaGreatDoor
namespace Go.Proofs
open Go.Shelf
def Tryz.lays219_ren : Go.Shelf.Ren := ⟨fun | 219 => 124 | 217 => 144 | 225 => 145 | 224 => 146 | 267 => 147 | 266 => 161 | 314 => 162 | n => n, fun | 9 => 9 | 3 => 3 | 4 => 4 | 5 => 5 | 46 => 159 | 146 => 179 | 51 => 178 | n => n, fun | 1 => 0 | n => n⟩
theorem Tryz.lays219 : Go.Proofs.Lays.n219 Tryz.prog Tryz.lays219_ren := {
  mixed := by kernel_rfl
  f217 := Tryz.func144.trans (congrArg some (by kernel_rfl))
  f219 := Tryz.func124.trans (congrArg some (by kernel_rfl))
  f224 := Tryz.func146.trans (congrArg some (by kernel_rfl))
  f225 := Tryz.func145.trans (congrArg some (by kernel_rfl))
  f266 := Tryz.func161.trans (congrArg some (by kernel_rfl))
  f267 := Tryz.func147.trans (congrArg some (by kernel_rfl))
  f314 := Tryz.func162.trans (congrArg some (by kernel_rfl))
  t3 := Tryz.underlying3
  a3 := Tryz.isAgg3
  z3 := Tryz.sizeOf3
  v3 := Tryz.zeroValue3
  t4 := Tryz.underlying4
  a4 := Tryz.isAgg4
  z4 := Tryz.sizeOf4
  v4 := Tryz.zeroValue4
  t5 := Tryz.underlying5
  a5 := Tryz.isAgg5
  z5 := Tryz.sizeOf5
  v5 := Tryz.zeroValue5
  t9 := Tryz.underlying9
  a9 := Tryz.isAgg9
  z9 := Tryz.sizeOf9
  v9 := Tryz.zeroValue9
  t46 := Tryz.underlying159
  a46 := Tryz.isAgg159
  z46 := Tryz.sizeOf159
  v46 := Tryz.zeroValue159
  t51 := Tryz.underlying178
  a51 := Tryz.isAgg178
  z51 := Tryz.sizeOf178
  v51 := Tryz.zeroValue178
  t146 := Tryz.underlying179
  a146 := Tryz.isAgg179
  z146 := Tryz.sizeOf179
  v146 := Tryz.zeroValue179
  g1 := by kernel_rfl }
open Go.RowKit Go.Lib in
/-- internal/stringslite.Index (what strings.Index calls) AT A substr OF ONE BYTE c: IT RETURNS 'Lib.indexByte s c'; the world is as it was. (LAID: no walk: one application.) -/
theorem Tryz.stringslite_Index_one (s : ByteArray) (c : UInt8) (w : World) :
    Calls Tryz.prog 124 #[.string s, .string ⟨#[c]⟩] w fun e w' => e = .returned (.int .i64 (Lib.indexByte s.data.toList c)) ∧ w' = w := Any.stringslite_Index_one Tryz.lays219 s c w
def Tryz.lays101_ren : Go.Shelf.Ren := ⟨fun | 101 => 64 | 208 => 97 | 206 => 107 | n => n, fun | 9 => 9 | 4 => 4 | 3 => 3 | n => n, fun | n => n⟩
theorem Tryz.lays101 : Go.Proofs.Lays.n101 Tryz.prog Tryz.lays101_ren := {
  mixed := by kernel_rfl
  f101 := Tryz.func64.trans (congrArg some (by kernel_rfl))
  f206 := Tryz.func107.trans (congrArg some (by kernel_rfl))
  f208 := Tryz.func97.trans (congrArg some (by kernel_rfl))
  t3 := Tryz.underlying3
  a3 := Tryz.isAgg3
  z3 := Tryz.sizeOf3
  v3 := Tryz.zeroValue3
  t4 := Tryz.underlying4
  a4 := Tryz.isAgg4
  z4 := Tryz.sizeOf4
  v4 := Tryz.zeroValue4
  t9 := Tryz.underlying9
  a9 := Tryz.isAgg9
  z9 := Tryz.sizeOf9
  v9 := Tryz.zeroValue9 }
open Go.RowKit Go.Lib in
/-- strings.TrimPrefix: "TrimPrefix returns s without the provided leading prefix string. If s doesn't start with prefix, s is returned unchanged.": IT RETURNS 'Lib.trimPrefix s prefix'; the world is as it was. (LAID: no walk: one application.) -/
theorem Tryz.strings_TrimPrefix (s p : ByteArray) (w : World) :
    Calls Tryz.prog 64 #[.string s, .string p] w fun e w' => e = .returned (.string ⟨(Lib.trimPrefix s.data.toList p.data.toList).toArray⟩) ∧ w' = w := Any.strings_TrimPrefix Tryz.lays101 s p w
end Go.Proofs
