/- strings.Cut at a byte; strings.SplitSeq at "\n": what its iterator gives. Contracts of the library laid at this dump. A number's text, and what stays beside a writer of bytes. A text's words at blanks; a number's digits read back: plain. -/
import Derived.Test.YtibndaianhlcaaaGreatDoorPart6
import Derived.Test.YtibndaianhlcaaaGreatDoorPart4
import Derived.Test.YtibndaianhlcaaaGreatDoorPart5
import Derived.Shelf.Strconv.Itoa3
import Derived.Shelf.LaysM
import Derived.Ground.GgwProg
import Derived.Ground.SlgnProg
import Derived.Ground.SlgfProg
import Derived.Shelf.LaysC
import Derived.Test.YtibndaianhlcaaaGreatDoorProg
import Derived.Test.YtibndaianhlcaaaGreatDoorPart1
import Derived.Lib.OthersKept
import Derived.Lib.ItoaLen
import Derived.Lib.SplitLaws
import Derived.Lib.AtoiTie
import Derived.Lib.IndexMore
import Derived.Lib.IndexLaws
namespace Go.Proofs.YtibndaianhlcaaaGreatDoor
open Go.RowKit Go.Shelf
set_option linter.unusedVariables false
set_option linter.unusedSimpArgs false

theorem indexB_none (c : UInt8) : ∀ (l : Txt), c ∉ l → Lib.indexByte l c = -1
  | [], _ => by simp [Lib.indexByte]
  | x :: l, h => by
    have h1 : x ≠ c := fun e => h (by rw [e]; exact List.mem_cons_self ..)
    have h2 := indexB_none c l (fun e => h (List.mem_cons_of_mem _ e))
    simp [Lib.indexByte, h1, h2]
theorem indexB_cut (c : UInt8) : ∀ (a b : Txt), c ∉ a → Lib.indexByte (a ++ c :: b) c = (a.length : Int)
  | [], b, _ => by simp [Lib.indexByte]
  | x :: a, b, h => by
    have h1 : x ≠ c := fun e => h (by rw [e]; exact List.mem_cons_self ..)
    have h2 := indexB_cut c a b (fun e => h (List.mem_cons_of_mem _ e))
    show (if x == c then 0 else if Lib.indexByte (a ++ c :: b) c == -1 then -1 else Lib.indexByte (a ++ c :: b) c + 1) = _
    rw [h2, if_neg (by simpa using h1), if_neg (by simp)]
    simp
theorem cutB_of_mem (c : UInt8) : ∀ (l : Txt), c ∈ l → ∃ a b, l = a ++ c :: b ∧ c ∉ a
  | [], h => by cases h
  | x :: l, h => by
    by_cases hx : x = c
    · exact ⟨[], l, by rw [hx]; rfl, by simp⟩
    · obtain ⟨a, b, e, hn⟩ := cutB_of_mem c l (by
        rcases List.mem_cons.1 h with h | h
        · exact absurd h.symm hx
        · exact h)
      refine ⟨x :: a, b, by rw [e]; rfl, fun hm => ?_⟩
      rcases List.mem_cons.1 hm with h1 | h1
      · exact hx h1.symm
      · exact hn h1
theorem front_none {c : UInt8} {l : Txt} (h : c ∉ l) : frontT c l = l ∧ afterT c l = [] := by
  obtain ⟨h1, h2⟩ := front_at (c := c) (Nat.le_refl l.length) (by rw [List.take_length]; exact fun x hx e => h (e ▸ hx)) (.inl rfl)
  unfold frontT afterT
  rw [h1, h2, List.take_length, List.drop_length]
  exact ⟨rfl, rfl⟩
theorem split1_none {l : Txt} (h : (10 : UInt8) ∉ l) : splitN 10 l = [l] := by
  induction l with
  | nil => rfl
  | cons x a ih => rw [splitN, if_neg (fun e => h (by rw [e]; exact List.mem_cons_self)), ih (fun hm => h (List.mem_cons_of_mem _ hm))]
set_option maxRecDepth 100000 in
set_option maxHeartbeats 1000000 in
theorem cutI_any (c : UInt8) (s : Txt) (hs : s.length ≤ 1000000000) (w : World) :
    Calls Tryz.prog 99 #[.string ⟨s.toArray⟩, .string ⟨#[c]⟩] w fun e w' => (∃ b, e = .returned (.tuple #[.string ⟨(frontT c s).toArray⟩, .string ⟨(afterT c s).toArray⟩, .bool b])) ∧ ∃ q, w' = w.drewN q := by
  have hix := Tryz.stringslite_Index_one ⟨s.toArray⟩ c w
  have hd : (ByteArray.mk s.toArray).data.toList = s := rfl
  rw [hd] at hix
  clear hd
  by_cases hmem : c ∈ s
  · obtain ⟨a, b, rfl, hna⟩ := cutB_of_mem c s hmem
    rw [indexB_cut c a b hna] at hix
    obtain ⟨f1, f2⟩ := front_line c a b hna
    rw [f1, f2]
    have hx1 : (ByteArray.mk (a ++ c :: b).toArray).extract 0 a.length = ⟨a.toArray⟩ := by rw [ext0, List.take_left]
    have hx2 : (ByteArray.mk (a ++ c :: b).toArray).extract (a.length + 1) (a.length + (b.length + 1)) = ⟨b.toArray⟩ := by
      have h1 := extN (a ++ c :: b) (a.length + 1)
      rw [show (a ++ c :: b).length = a.length + (b.length + 1) by simp] at h1
      rw [h1]
      congr 2
      rw [show a ++ c :: b = (a ++ [c]) ++ b by simp]
      exact List.drop_left' (by simp)
    have hal : a.length ≤ 1000000000 := by simp at hs; omega
    have hbl : b.length ≤ 1000000000 := by simp at hs; omega
    have hge : decide ((a.length : Int) ≥ 0) = true := decide_eq_true (by omega)
    clear hmem hna f1 f2
    go_enter Tryz.func99, Tryz.ntmps99
    go_wp2_with (go_at_call 124; refine hix.mono ?_; clear hix; rintro e W2 ⟨rfl, hW2⟩; obtain rfl := hW2.symm)
    go_quiet (fail)
    go_wp2_with (fail)
    refine bodyPost_ret (results_tmp3 rfl _ _ _) rfl ?_
    exact ⟨⟨_, rfl⟩, _, rfl⟩
  · rw [indexB_none c s hmem] at hix
    obtain ⟨f1, f2⟩ := front_none hmem
    rw [f1, f2]
    clear hmem f1 f2
    go_enter Tryz.func99, Tryz.ntmps99
    go_wp2_with (go_at_call 124; refine hix.mono ?_; clear hix; rintro e W2 ⟨rfl, hW2⟩; obtain rfl := hW2.symm)
    refine bodyPost_ret (results_tmp3 rfl _ _ _) rfl ?_
    exact ⟨⟨_, rfl⟩, 0, rfl⟩
theorem cutS_any (c : UInt8) (s : Txt) (hs : s.length ≤ 1000000000) (w : World) :
    Calls Tryz.prog 66 #[.string ⟨s.toArray⟩, .string ⟨#[c]⟩] w fun e w' => (∃ b, e = .returned (.tuple #[.string ⟨(frontT c s).toArray⟩, .string ⟨(afterT c s).toArray⟩, .bool b])) ∧ ∃ q, w' = w.drewN q := by
  have hc := cutI_any c s hs w
  go_enter Tryz.func66, Tryz.ntmps66
  go_wp2_with (go_at_call 99; refine hc.mono ?_; clear hc; rintro e W2 ⟨⟨b, rfl⟩, q, rfl⟩)
  refine bodyPost_ret (results_tmp3 rfl _ _ _) rfl ?_
  exact ⟨⟨_, rfl⟩, _, rfl⟩

section
attribute [local go_sem] Oper.semAt_some
set_option maxRecDepth 100000 in
set_option maxHeartbeats 4000000 in
theorem splitseq10_in (m : Nat) (hm : 1 ≤ m) (b1 b2 b3 : Nat) (h12 : b1 ≠ b2) (h13 : b1 ≠ b3) (l0 : Txt) (hlen : l0.length ≤ 1000000000) (W : World)
    (c1 : Blk W b1 9 #[.string ⟨l0.toArray⟩]) (c2 : Blk W b2 9 #[.string ⟨#[10]⟩]) (c3 : Blk W b3 3 #[.int .i64 0]) :
    SeqC Fence.wide m Tryz.prog 121 #[.pointer (some ⟨b2, 0, none⟩), .pointer (some ⟨b1, 0, none⟩), .pointer (some ⟨b3, 0, none⟩)] (fun x : Txt => #[.string ⟨x.toArray⟩]) (Kp3 b1 b2 b3) (fun xs => xs = splitN 10 l0) (fun pre => pre <+: splitN 10 l0) b1 W := by
  intro l J Jx hJc hJd hY h0
  refine callsIn_of_wp Tryz.func121 rfl trivial ?_ rfl
  simp only [Tryz.ntmps121, List.size_toArray, List.length_cons, List.length_nil, Nat.reduceAdd, Nat.reduceSub, Array.replicate_succ, Array.replicate_zero, List.push_toArray, List.append_toArray, List.nil_append, List.cons_append]
  have d2 := c2.cell 0
  have d1 := c1.cell 0
  simp only [List.getElem?_toArray, List.getElem?_cons_zero] at d1 d2
  have C1 := Lib.hid c1
  have C2 := Lib.hid c2
  have C3 := Lib.hid c3
  have HY := Lib.hid hY
  have HJC := Lib.hid hJc
  clear c1 c2 c3 hY hJc
  gi_wp2
  gi_loopw [7] (fun t wr => ∃ (pre : List Txt) (rest : Txt), splitN 10 l0 = pre ++ splitN 10 rest ∧ rest.length ≤ l0.length ∧ Blk wr b1 9 #[.string ⟨rest.toArray⟩] ∧ Blk wr b2 9 #[.string ⟨#[10]⟩] ∧ Blk wr b3 3 #[.int .i64 0] ∧ J pre wr) (fun _ wr => leftC b1 wr)
  case atStart => exact ⟨[], l0, rfl, Nat.le_refl _, C1.out, C2.out, C3.out, h0⟩
  case round =>
    obtain ⟨pre, rest, hsp, hrl, e1, e2, e3, hJ⟩ := hrel
    have f1 := e1.cell 0
    have f2 := e2.cell 0
    have f3 := e3.cell 0
    simp only [List.getElem?_toArray, List.getElem?_cons_zero] at f1 f2 f3
    have hix := callsIn_wide (n := m - 1) |>.2 (Tryz.strings_Index_one ⟨rest.toArray⟩ 10 wr)
    have hd : (ByteArray.mk rest.toArray).data.toList = rest := rfl
    rw [hd] at hix
    clear hd
    have HSP := Lib.hid hsp
    have HRL := Lib.hid hrl
    have HE := Lib.hid (And.intro e1 (And.intro e2 e3))
    clear hsp hrl e1 e2 e3
    by_cases hmem : (10 : UInt8) ∈ rest
    · obtain ⟨a, b, rfl, hna⟩ := cutB_of_mem 10 rest hmem
      rw [indexB_cut 10 a b hna] at hix
      have HSP2 := Lib.hid (show splitN 10 l0 = (pre ++ [a]) ++ splitN 10 b by rw [HSP.out, splitN_line 10 a b hna]; simp)
      have hN : pre ++ [a] <+: splitN 10 l0 := ⟨splitN 10 b, HSP2.out.symm⟩
      obtain ⟨fn, tmps, assign, body, hy, hR⟩ := HY.out pre a wr hJ hN
      have hx1 : (ByteArray.mk (a ++ 10 :: b).toArray).extract 0 a.length = ⟨a.toArray⟩ := by rw [ext0, List.take_left]
      have hx2 : (ByteArray.mk (a ++ 10 :: b).toArray).extract (a.length + 1) (a.length + (b.length + 1)) = ⟨b.toArray⟩ := by
        have h1 := extN (a ++ 10 :: b) (a.length + 1)
        rw [show (a ++ 10 :: b).length = a.length + (b.length + 1) by simp] at h1
        rw [h1]
        congr 2
        rw [show a ++ 10 :: b = (a ++ [10]) ++ b by simp]
        exact List.drop_left' (by simp)
      have HX2 := Lib.hid hx2
      have hal : a.length ≤ 1000000000 := by have := HRL.out; simp at this; omega
      have hbl : b.length ≤ 1000000000 := by have := HRL.out; simp at this; omega
      have HBL := Lib.hid (show b.length ≤ l0.length by have := HRL.out; simp at this; omega)
      clear hx2 hmem hna hN
      gi_wp2_with (refine ⟨trivial, ?_⟩; gi_at_call 123; refine hix.mono ?_; clear hix; rintro e W2 ⟨rfl, hW2⟩; obtain rfl := hW2.symm)
      refine hR.mono ?_
      rintro e W3 (⟨rfl, hJ3, hk3⟩ | ⟨rfl, hJx3⟩)
      · have E1 := Lib.hid (show Blk W3 b1 9 #[.string ⟨(a ++ 10 :: b).toArray⟩] from hk3.k1.trans HE.out.1)
        have E2 := Lib.hid (show Blk W3 b2 9 #[.string ⟨#[10]⟩] from hk3.k2.trans HE.out.2.1)
        have E3 := Lib.hid (show Blk W3 b3 3 #[.int .i64 0] from hk3.k3.trans HE.out.2.2)
        have g1 := E1.out.cell 0
        have g2 := E2.out.cell 0
        have gf := E1.out.frozen 0
        simp only [List.getElem?_toArray, List.getElem?_cons_zero] at g1 g2
        have hx2 := HX2.out
        have hE4 := Lib.hid (And.intro (E1.out.set_ 0 (.string ⟨b.toArray⟩)) (And.intro (E2.out.far (p := ⟨b1, 0, none⟩) (fun e => h12 e.symm) (.string ⟨b.toArray⟩)) (E3.out.far (p := ⟨b1, 0, none⟩) (fun e => h13 e.symm) (.string ⟨b.toArray⟩))))
        have hlt1 := E1.out.lt
        clear f1 f2 f3 hy
        gi_wp2
        go_roundw
        case rel => exact ⟨pre ++ [a], b, HSP2.out, HBL.out, hE4.out.1, hE4.out.2.1, hE4.out.2.2, HJC.out _ _ _ hJ3⟩
        case measure =>
          rw [leftC_of (show Blk (W3.setCell ⟨b1, 0, none⟩ (.string ⟨b.toArray⟩)) b1 9 #[.string ⟨b.toArray⟩] from hE4.out.1), leftC_of HE.out.1]
          simp
          omega
      · gi_wp2
        refine bodyPost_ret (results_none rfl _ _ _) rfl ?_
        exact ⟨⟨_, rfl⟩, .inr ⟨pre ++ [a], ⟨splitN 10 b, HSP2.out.symm⟩, hJx3⟩⟩
    · rw [indexB_none 10 rest hmem] at hix
      have HSP2 := Lib.hid (show splitN 10 l0 = pre ++ [rest] by rw [HSP.out, split1_none hmem])
      have hN : pre ++ [rest] <+: splitN 10 l0 := ⟨[], by rw [HSP2.out]; simp⟩
      obtain ⟨fn, tmps, assign, body, hy, hR⟩ := HY.out pre rest wr hJ hN
      clear hmem hN
      gi_wp2_with (refine ⟨trivial, ?_⟩; gi_at_call 123; refine hix.mono ?_; clear hix; rintro e W2 ⟨rfl, hW2⟩; obtain rfl := hW2.symm)
      refine hR.mono ?_
      rintro e W3 (⟨rfl, hJ3, hk3⟩ | ⟨rfl, hJx3⟩)
      · gi_wp2
        go_end0
        exact ⟨⟨_, rfl⟩, .inl ⟨pre ++ [rest], HSP2.out.symm, hJ3⟩⟩
      · gi_wp2
        go_end0
        exact ⟨⟨_, rfl⟩, .inr ⟨pre ++ [rest], ⟨[], by rw [HSP2.out]; simp⟩, hJx3⟩⟩
end

/-- The world behind SplitSeq: its three cells. -/
def splitW10 (w : World) (s : ByteArray) : World := ((w.alloc (.cells #[.string s] 9)).alloc (.cells #[.string ⟨#[10]⟩] 9)).alloc (.cells #[.int .i64 0] 3)
theorem splitW10_facts (w : World) (s : ByteArray) : Blk (splitW10 w s) w.heap.size 9 #[.string s] ∧ Blk (splitW10 w s) (w.heap.size + 1) 9 #[.string ⟨#[10]⟩] ∧ Blk (splitW10 w s) (w.heap.size + 2) 3 #[.int .i64 0] ∧ Below w.heap.size w (splitW10 w s) ∧ (splitW10 w s).heap.size = w.heap.size + 3 := by
  unfold splitW10
  refine ⟨((Blk.new _ _ _).alloc _).alloc _, ?_, ?_, (((Below.refl _ w).alloc (Nat.le_refl _) _).alloc (by simp) _).alloc (by simp; omega) _, by simp⟩
  · have := Blk.new (w.alloc (.cells #[.string s] 9)) 9 #[.string ⟨#[10]⟩]
    rw [World.size_alloc] at this
    exact this.alloc _
  · have := Blk.new ((w.alloc (.cells #[.string s] 9)).alloc (.cells #[.string ⟨#[10]⟩] 9)) 3 #[.int .i64 0]
    rwa [World.size_alloc, World.size_alloc] at this
theorem split10_any (s : ByteArray) (w : World) : Calls Tryz.prog 65 #[.string s, .string ⟨#[10]⟩] w fun e w' =>
    e = .returned (.func (.func 121) #[] #[.pointer (some ⟨w.heap.size + 1, 0, none⟩), .pointer (some ⟨w.heap.size, 0, none⟩), .pointer (some ⟨w.heap.size + 2, 0, none⟩)]) ∧ w' = splitW10 w s := by
  unfold splitW10
  go_enter Tryz.func65, Tryz.ntmps65
  go_wp2
  go_ret
  exact ⟨rfl, rfl⟩
end Go.Proofs.YtibndaianhlcaaaGreatDoor
namespace Go.Proofs
open Go.Shelf
def Tryz.laysM171_ren : Go.Shelf.Ren := ⟨fun | 171 => 102 | 243 => 126 | 246 => 148 | 283 => 163 | 284 => 164 | 285 => 165 | 286 => 166 | 129 => 173 | 317 => 172 | 318 => 174 | 319 => 175 | 320 => 176 | 337 => 179 | 338 => 180 | n => n, fun | 3 => 3 | 9 => 9 | 2 => 2 | 4 => 4 | 171 => 181 | 0 => 0 | 53 => 182 | 37 => 33 | 5 => 5 | 173 => 185 | 212 => 196 | 51 => 178 | 20 => 20 | 213 => 197 | 46 => 159 | 232 => 205 | 233 => 206 | n => n, fun | 17 => 5 | 18 => 6 | 19 => 7 | n => n⟩
theorem Tryz.laysM171 : Go.Proofs.LaysM.n171 Tryz.prog Tryz.laysM171_ren := {
  mixed := by kernel_rfl
  f129 := Tryz.func173.trans (congrArg some (by kernel_rfl))
  f171 := Tryz.func102.trans (congrArg some (by kernel_rfl))
  f243 := Tryz.func126.trans (congrArg some (by kernel_rfl))
  f246 := Tryz.func148.trans (congrArg some (by kernel_rfl))
  f283 := Tryz.func163.trans (congrArg some (by kernel_rfl))
  f284 := Tryz.func164.trans (congrArg some (by kernel_rfl))
  f285 := Tryz.func165.trans (congrArg some (by kernel_rfl))
  f286 := Tryz.func166.trans (congrArg some (by kernel_rfl))
  f317 := Tryz.func172.trans (congrArg some (by kernel_rfl))
  f318 := Tryz.func174.trans (congrArg some (by kernel_rfl))
  f319 := Tryz.func175.trans (congrArg some (by kernel_rfl))
  f320 := Tryz.func176.trans (congrArg some (by kernel_rfl))
  f337 := Tryz.func179.trans (congrArg some (by kernel_rfl))
  f338 := Tryz.func180.trans (congrArg some (by kernel_rfl))
  t0 := Tryz.underlying0
  a0 := Tryz.isAgg0
  z0 := Tryz.sizeOf0
  v0 := Tryz.zeroValue0
  t2 := Tryz.underlying2
  a2 := Tryz.isAgg2
  z2 := Tryz.sizeOf2
  v2 := Tryz.zeroValue2
  t3 := Tryz.underlying3
  a3 := Tryz.isAgg3
  z3 := Tryz.sizeOf3
  v3 := Tryz.zeroValue3
  t4 := Tryz.underlying4
  a4 := Tryz.isAgg4
  z4 := Tryz.sizeOf4
  v4 := Tryz.zeroValue4
  t5 := Tryz.underlying5
  a5 := Tryz.isAgg5
  z5 := Tryz.sizeOf5
  v5 := Tryz.zeroValue5
  t9 := Tryz.underlying9
  a9 := Tryz.isAgg9
  z9 := Tryz.sizeOf9
  v9 := Tryz.zeroValue9
  t20 := Tryz.underlying20
  a20 := Tryz.isAgg20
  z20 := Tryz.sizeOf20
  v20 := Tryz.zeroValue20
  t37 := Tryz.underlying33
  a37 := Tryz.isAgg33
  z37 := Tryz.sizeOf33
  v37 := Tryz.zeroValue33
  t46 := Tryz.underlying159
  a46 := Tryz.isAgg159
  z46 := Tryz.sizeOf159
  v46 := Tryz.zeroValue159
  t51 := Tryz.underlying178
  a51 := Tryz.isAgg178
  z51 := Tryz.sizeOf178
  v51 := Tryz.zeroValue178
  t53 := Tryz.underlying182
  a53 := Tryz.isAgg182
  z53 := Tryz.sizeOf182
  v53 := Tryz.zeroValue182
  t171 := Tryz.underlying181
  a171 := Tryz.isAgg181
  z171 := Tryz.sizeOf181
  v171 := Tryz.zeroValue181
  t173 := Tryz.underlying185
  a173 := Tryz.isAgg185
  z173 := Tryz.sizeOf185
  v173 := Tryz.zeroValue185
  t212 := Tryz.underlying196
  a212 := Tryz.isAgg196
  z212 := Tryz.sizeOf196
  v212 := Tryz.zeroValue196
  t213 := Tryz.underlying197
  a213 := Tryz.isAgg197
  z213 := Tryz.sizeOf197
  t232 := Tryz.underlying205
  a232 := Tryz.isAgg205
  z232 := Tryz.sizeOf205
  v232 := Tryz.zeroValue205
  t233 := Tryz.underlying206
  a233 := Tryz.isAgg206
  z233 := Tryz.sizeOf206
  v233 := Tryz.zeroValue206
  g17 := by kernel_rfl
  g18 := by kernel_rfl
  g19 := by kernel_rfl
  i0 := by kernel_rfl
  i2 := by kernel_rfl
  i3 := by kernel_rfl
  i4 := by kernel_rfl
  i5 := by kernel_rfl
  i9 := by kernel_rfl
  i20 := by kernel_rfl
  i37 := by kernel_rfl
  i46 := by kernel_rfl
  i51 := by kernel_rfl
  i53 := by kernel_rfl
  i171 := by kernel_rfl
  i173 := by kernel_rfl
  i212 := by kernel_rfl
  i232 := by kernel_rfl
  i233 := by kernel_rfl
  m17 := by kernel_rfl
  m18 := by kernel_rfl
  m19 := by kernel_rfl }
open Go.RowKit Go.Sort Go.Lib in
/-- strconv.Itoa: "Itoa is equivalent to FormatInt(int64(i), 10).": i's DECIMAL NUMERAL ('Lib.itoa': a '-' where i is negative, then the digits), FOR EVERY int. The world behind the call: the world before it, new blocks behind the heap (the library's 'var a [24]byte'), draws. (LAID: no walk: one application.) -/
theorem Tryz.strconv_Itoa (n : Int) (h0 : -9223372036854775808 ≤ n) (h1 : n ≤ 9223372036854775807) (w : World) (htab : Lib.TabIs Tryz.prog w "internal/strconv.uint64pow10" .u64 Lib.pow10Tab) :
    Calls Tryz.prog 102 #[.int .i64 n] w fun e w' => e = .returned (.string ⟨(Lib.itoa n).toArray⟩) ∧ ∃ k os, w' = grow (w.drewN k) os := Any.strconv_Itoa Tryz.laysM171 n h0 h1 w htab
def Tryz.lays171_ren : Go.Shelf.Ren := ⟨fun | 171 => 102 | 243 => 126 | 246 => 148 | 283 => 163 | 284 => 164 | 285 => 165 | 286 => 166 | 129 => 173 | 317 => 172 | 318 => 174 | 319 => 175 | 320 => 176 | 337 => 179 | 338 => 180 | n => n, fun | 3 => 3 | 9 => 9 | 2 => 2 | 4 => 4 | 171 => 181 | 0 => 0 | 53 => 182 | 37 => 33 | 5 => 5 | 173 => 185 | 212 => 196 | 51 => 178 | 20 => 20 | 213 => 197 | 46 => 159 | 232 => 205 | 233 => 206 | n => n, fun | 17 => 5 | 18 => 6 | 19 => 7 | n => n⟩
theorem Tryz.lays171 : Go.Proofs.Lays.n171 Tryz.prog Tryz.lays171_ren := {
  mixed := by kernel_rfl
  f129 := Tryz.func173.trans (congrArg some (by kernel_rfl))
  f171 := Tryz.func102.trans (congrArg some (by kernel_rfl))
  f243 := Tryz.func126.trans (congrArg some (by kernel_rfl))
  f246 := Tryz.func148.trans (congrArg some (by kernel_rfl))
  f283 := Tryz.func163.trans (congrArg some (by kernel_rfl))
  f284 := Tryz.func164.trans (congrArg some (by kernel_rfl))
  f285 := Tryz.func165.trans (congrArg some (by kernel_rfl))
  f286 := Tryz.func166.trans (congrArg some (by kernel_rfl))
  f317 := Tryz.func172.trans (congrArg some (by kernel_rfl))
  f318 := Tryz.func174.trans (congrArg some (by kernel_rfl))
  f319 := Tryz.func175.trans (congrArg some (by kernel_rfl))
  f320 := Tryz.func176.trans (congrArg some (by kernel_rfl))
  f337 := Tryz.func179.trans (congrArg some (by kernel_rfl))
  f338 := Tryz.func180.trans (congrArg some (by kernel_rfl))
  t0 := Tryz.underlying0
  a0 := Tryz.isAgg0
  z0 := Tryz.sizeOf0
  v0 := Tryz.zeroValue0
  t2 := Tryz.underlying2
  a2 := Tryz.isAgg2
  z2 := Tryz.sizeOf2
  v2 := Tryz.zeroValue2
  t3 := Tryz.underlying3
  a3 := Tryz.isAgg3
  z3 := Tryz.sizeOf3
  v3 := Tryz.zeroValue3
  t4 := Tryz.underlying4
  a4 := Tryz.isAgg4
  z4 := Tryz.sizeOf4
  v4 := Tryz.zeroValue4
  t5 := Tryz.underlying5
  a5 := Tryz.isAgg5
  z5 := Tryz.sizeOf5
  v5 := Tryz.zeroValue5
  t9 := Tryz.underlying9
  a9 := Tryz.isAgg9
  z9 := Tryz.sizeOf9
  v9 := Tryz.zeroValue9
  t20 := Tryz.underlying20
  a20 := Tryz.isAgg20
  z20 := Tryz.sizeOf20
  v20 := Tryz.zeroValue20
  t37 := Tryz.underlying33
  a37 := Tryz.isAgg33
  z37 := Tryz.sizeOf33
  v37 := Tryz.zeroValue33
  t46 := Tryz.underlying159
  a46 := Tryz.isAgg159
  z46 := Tryz.sizeOf159
  v46 := Tryz.zeroValue159
  t51 := Tryz.underlying178
  a51 := Tryz.isAgg178
  z51 := Tryz.sizeOf178
  v51 := Tryz.zeroValue178
  t53 := Tryz.underlying182
  a53 := Tryz.isAgg182
  z53 := Tryz.sizeOf182
  v53 := Tryz.zeroValue182
  t171 := Tryz.underlying181
  a171 := Tryz.isAgg181
  z171 := Tryz.sizeOf181
  v171 := Tryz.zeroValue181
  t173 := Tryz.underlying185
  a173 := Tryz.isAgg185
  z173 := Tryz.sizeOf185
  v173 := Tryz.zeroValue185
  t212 := Tryz.underlying196
  a212 := Tryz.isAgg196
  z212 := Tryz.sizeOf196
  v212 := Tryz.zeroValue196
  t213 := Tryz.underlying197
  a213 := Tryz.isAgg197
  z213 := Tryz.sizeOf197
  t232 := Tryz.underlying205
  a232 := Tryz.isAgg205
  z232 := Tryz.sizeOf205
  v232 := Tryz.zeroValue205
  t233 := Tryz.underlying206
  a233 := Tryz.isAgg206
  z233 := Tryz.sizeOf206
  v233 := Tryz.zeroValue206
  g17 := by kernel_rfl
  g18 := by kernel_rfl
  g19 := by kernel_rfl }
open Go.RowKit Go.Sort Go.Lib in
/-- THE ROAD WITHOUT THE TABLE: 0 <= i < 100: NO PREMISE ON THE WORLD, AND THE WORLD IS AS IT WAS: a row that keeps its argument in that range need list no table ('laid = []'). (LAID: no walk: one application.) -/
theorem Tryz.strconv_Itoa_small (i : Nat) (hi : i < 100) (w : World) :
    Calls Tryz.prog 102 #[.int .i64 i] w fun e w' => e = .returned (.string ⟨(Lib.decDigits i).toArray⟩) ∧ w' = w := Any.strconv_Itoa_small Tryz.lays171 i hi w
end Go.Proofs
namespace Go.Proofs.YtibndaianhlcaaaGreatDoor
open Go.RowKit Go.Sort
set_option linter.unusedVariables false
set_option linter.unusedSimpArgs false

/-- What is asked of a number's text. -/
structure ItoaOk (w : World) (n : Int) : Prop where
  run : ∀ w', Below w.heap.size w w' → Calls Tryz.prog 102 #[.int .i64 n] w' fun e w'' => e = .returned (.string ⟨(Lib.itoa n).toArray⟩) ∧ Below w'.heap.size w' w''
  short : (Lib.itoa n).length ≤ 1000
theorem itoa_small (w : World) (n : Nat) (h : n < 100) : ItoaOk w (n : Int) := by
  have h0 : ¬ (n : Int) < 0 := by omega
  refine ⟨fun w' _ => (Tryz.strconv_Itoa_small n h w').mono ?_, ?_⟩
  · rintro e w'' ⟨rfl, hw⟩
    obtain rfl := hw.symm
    refine ⟨?_, Below.refl _ _⟩
    unfold Lib.itoa
    rw [if_neg h0]
    rfl
  · unfold Lib.itoa
    rw [if_neg h0]
    show (Lib.decDigits n).length ≤ 1000
    by_cases h1 : n < 10
    · rw [Lib.decDigits_one h1]; simp
    · rw [Lib.decDigits_two h1 h]; simp
theorem blk_others {w w' : World} {b g : Nat} {t : TypeId} {cs : Array Value} (h : Blk w g t cs) (hk : Lib.OthersKept 5 (some b) w w') (hg : g ≠ b) (ht : t ≠ 5) : Blk w' g t cs :=
  hk g _ h (fun e => hg (Option.some.inj e)) (fun c fz e => by injection e with _ e2 _; exact ht e2)

theorem below_drewN {B : Nat} (w : World) (k : Nat) : Below B w (w.drewN k) := ⟨rfl, rfl, rfl, Nat.le_refl _, fun _ _ => rfl⟩
theorem below_grown (w : World) (k : Nat) (os : Array Obj) : Below w.heap.size w (grow (w.drewN k) os) :=
  ⟨rfl, rfl, rfl, by simp [grow], fun i hi => by simp [grow, Array.getElem?_append, hi]⟩
theorem itoa_len (n : Nat) (h : n < 100000) : (Lib.itoa (n : Int)).length ≤ 1000 := Nat.le_trans (Lib.itoa_length_le n (by omega) (by omega)) (by decide)
/-- The text of any number, where the table of tens lies as it was laid. -/
theorem itoa_tab (w : World) (n : Nat) (h : n < 100000) (htab : ∀ w', Below w.heap.size w w' → Lib.TabIs Tryz.prog w' "internal/strconv.uint64pow10" .u64 Lib.pow10Tab) : ItoaOk w (n : Int) := by
  refine ⟨fun w' hw => (Tryz.strconv_Itoa (n : Int) (by omega) (by omega) w' (htab w' hw)).mono ?_, itoa_len n h⟩
  rintro e w'' ⟨rfl, k, os, rfl⟩
  exact ⟨rfl, below_grown _ k os⟩
end Go.Proofs.YtibndaianhlcaaaGreatDoor
namespace Go.Proofs.YtibndaianhlcaaaGreatDoor
open Go.RowKit
set_option linter.unusedVariables false
set_option linter.unusedSimpArgs false

theorem ix_noneD (c : UInt8) : ∀ (l : Txt), c ∉ l → Lib.indexByte l c = -1
  | [], _ => rfl
  | b :: l, h => by
    unfold Lib.indexByte
    have hb : ¬ (b == c) = true := fun e => h (by rw [beq_iff_eq.1 e]; exact List.mem_cons_self)
    rw [if_neg hb, ix_noneD c l (fun e => h (List.mem_cons_of_mem _ e))]
    rfl
theorem ix_cutD (c : UInt8) : ∀ (a b : Txt), c ∉ a → Lib.indexByte (a ++ c :: b) c = (a.length : Int)
  | [], b, _ => by simp [Lib.indexByte]
  | x :: a, b, h => by
    have hc : ¬ (x == c) = true := fun e => h (by rw [beq_iff_eq.1 e]; exact List.mem_cons_self)
    have ih := ix_cutD c a b (fun e => h (List.mem_cons_of_mem _ e))
    rw [List.cons_append, Lib.indexByte, if_neg hc, ih]
    have : ¬ ((a.length : Int) == -1) = true := by rw [beq_iff_eq]; omega
    rw [if_neg this]
    simp
theorem index_cD (s : Txt) (c : UInt8) : Lib.indexB ⟨s.toArray⟩ ⟨#[c]⟩ = Lib.indexByte s c := by
  show Lib.index s [c] = _
  rw [Lib.index_one]
/-- A text's words. -/
def wsplit (s : Txt) : List Txt := (Lib.splitB ⟨#[32]⟩ 0 (Lib.countB ⟨s.toArray⟩ ⟨#[32]⟩) ⟨s.toArray⟩).map (·.data.toList)
theorem bextD (l : Txt) (a b : Nat) : (ByteArray.mk l.toArray).extract a b = ⟨((l.drop a).take (b - a)).toArray⟩ := by
  apply Go.WideShapes.bytes_inj
  simp [List.extract_eq_take_drop]
theorem wsplit_one {a : Txt} (h : (32 : UInt8) ∉ a) : wsplit a = [a] := by
  have hi : Lib.indexB ⟨a.toArray⟩ ⟨#[32]⟩ = -1 := by rw [index_cD, ix_noneD 32 a h]
  unfold wsplit
  rw [Lib.splitB_miss _ _ _ _ hi]
  rfl
theorem wsplit_cons {a r : Txt} (h : (32 : UInt8) ∉ a) : wsplit (a ++ 32 :: r) = a :: wsplit r := by
  have hi : Lib.indexB ⟨(a ++ 32 :: r).toArray⟩ ⟨#[32]⟩ = (a.length : Int) := by rw [index_cD, ix_cutD 32 a r h]
  have e1 : (ByteArray.mk (a ++ 32 :: r).toArray).extract (a.length + (⟨#[32]⟩ : ByteArray).size) (ByteArray.mk (a ++ 32 :: r).toArray).size = ⟨r.toArray⟩ := by
    rw [show (ByteArray.mk (a ++ 32 :: r).toArray).size = (a ++ 32 :: r).length from rfl, show (⟨#[32]⟩ : ByteArray).size = 1 from rfl, bextD]
    rw [show a ++ 32 :: r = (a ++ [32]) ++ r by simp, List.drop_left' (by simp), List.take_of_length_le (by simp; omega)]
  unfold wsplit
  rw [Lib.countB_hit _ _ _ (by decide) hi, e1, Nat.add_comm 1, Lib.splitB_hit _ _ _ _ _ hi, e1, Nat.add_zero, bextD, List.drop_zero, Nat.sub_zero, List.take_left' rfl]
  rfl
theorem wsplit_length (s : Txt) : (wsplit s).length = Lib.countB ⟨s.toArray⟩ ⟨#[32]⟩ + 1 := by
  unfold wsplit
  rw [List.length_map, Lib.splitB_all _ (by decide) 0 _ _ rfl]
theorem wsplit_cells (s : Txt) : ((Lib.splitB ⟨#[32]⟩ 0 (Lib.countB ⟨s.toArray⟩ ⟨#[32]⟩) ⟨s.toArray⟩).map Value.string).toArray = ((wsplit s).map fun t => Value.string ⟨t.toArray⟩).toArray := by
  unfold wsplit
  rw [List.map_map]
  rfl

theorem dig_memD : ∀ (n : Nat) (c : UInt8), c ∈ Lib.decDigits n → 48 ≤ c.toNat ∧ c.toNat ≤ 57 := by
  intro n
  induction n using Nat.strongRecOn with
  | _ n ih =>
    intro c hc
    rw [Lib.decDigits] at hc
    have key : ∀ m, m < 10 → c = UInt8.ofNat (48 + m) → 48 ≤ c.toNat ∧ c.toNat ≤ 57 := fun m hm e => by
      rw [e, UInt8.toNat_ofNat_of_lt' (show 48 + m < 2 ^ 8 by omega)]
      omega
    by_cases h : n < 10
    · rw [dif_pos h, List.mem_singleton] at hc
      exact key n h hc
    · rw [dif_neg h, List.mem_append, List.mem_singleton] at hc
      rcases hc with hc | hc
      · exact ih (n / 10) (by omega) c hc
      · exact key (n % 10) (by omega) hc
theorem ito_noD {x : Int} (hx : 0 ≤ x) {c : UInt8} (h : c.toNat < 48) : c ∉ Lib.itoa x := fun hm => by
  unfold Lib.itoa at hm
  rw [if_neg (by omega)] at hm
  have := (dig_memD _ c hm).1
  omega
theorem from_snocD : ∀ (l : List UInt8) (a n d : Nat) (b : UInt8), Lib.decFrom a l = some n → Lib.digitVal b = some d → Lib.decFrom a (l ++ [b]) = some (n * 10 + d)
  | [], a, n, d, b, h, hb => by
    simp only [Lib.decFrom, Option.some.injEq] at h
    subst h
    simp [Lib.decFrom, hb]
  | c :: l, a, n, d, b, h, hb => by
    rw [List.cons_append]
    unfold Lib.decFrom at h ⊢
    cases hc : Lib.digitVal c with
    | none => rw [hc] at h; cases h
    | some v =>
      rw [hc] at h
      exact from_snocD l _ n d b h hb
theorem dvalD (d : Nat) (h : d < 10) : Lib.digitVal (UInt8.ofNat (48 + d)) = some d := by
  have : ∀ d : Fin 10, Lib.digitVal (UInt8.ofNat (48 + d.val)) = some d.val := by decide
  exact this ⟨d, h⟩
theorem from_digitsD : ∀ n : Nat, Lib.decFrom 0 (Lib.decDigits n) = some n := by
  intro n
  induction n using Nat.strongRecOn with
  | _ n ih =>
    rw [Lib.decDigits]
    by_cases h : n < 10
    · rw [dif_pos h]
      unfold Lib.decFrom
      rw [dvalD n h]
      simp [Lib.decFrom]
    · rw [dif_neg h, from_snocD _ 0 (n / 10) (n % 10) _ (ih (n / 10) (by omega)) (dvalD _ (by omega))]
      congr 1
      omega
theorem digits_shortD : ∀ (k n : Nat), n < 10 ^ (k + 1) → (Lib.decDigits n).length ≤ k + 1
  | 0, n, h => by
    rw [Lib.decDigits, dif_pos (by omega)]
    exact Nat.le_refl _
  | k + 1, n, h => by
    rw [Lib.decDigits]
    split
    · simp
    · rw [List.length_append, List.length_singleton]
      have := digits_shortD k (n / 10) (by rw [Nat.pow_succ] at h; omega)
      omega
theorem atoi_backD {x : Int} (h0 : 0 ≤ x) (h1 : x ≤ 999999) : Lib.atoiAll (Lib.itoa x) = .ok x := by
  obtain ⟨m, rfl⟩ : ∃ m : Nat, x = (m : Int) := ⟨x.toNat, by omega⟩
  have e : Lib.itoa (m : Int) = Lib.decDigits m := by
    unfold Lib.itoa
    rw [if_neg (by omega), Int.toNat_natCast]
  have hl := digits_shortD 5 m (by omega)
  have hd := dig_memD m
  have hv := from_digitsD m
  rw [e, Lib.atoiAll_short _ (by omega)]
  cases hq : Lib.decDigits m with
  | nil =>
    have h1 : 1 ≤ (Lib.decDigits m).length := by
      rw [Lib.decDigits]
      split <;> simp
    rw [hq] at h1
    simp at h1
  | cons b r =>
    rw [hq] at hd hv
    have hb := hd b List.mem_cons_self
    have n1 : ¬ (b == 45) = true := fun e => by rw [beq_iff_eq.1 e] at hb; simp at hb
    have n2 : ¬ (b == 43) = true := fun e => by rw [beq_iff_eq.1 e] at hb; simp at hb
    have e2 : Lib.decNat (b :: r) = some m := hv
    unfold Lib.atoi
    simp only
    rw [if_neg n1, if_neg n2, e2]
    rfl
theorem atoi_nilD : ∀ v, Lib.atoiAll [] ≠ .ok v := by
  intro v h
  rw [Lib.atoiAll_short _ (by decide)] at h
  cases h

theorem splitN_one (c : UInt8) : ∀ l : Txt, c ∉ l → splitN c l = [l]
  | [], _ => rfl
  | x :: l, h => by rw [splitN, if_neg (fun e => h (by rw [e]; exact List.mem_cons_self)), splitN_one c l (fun hm => h (List.mem_cons_of_mem _ hm))]
theorem wsplit_eq (s : Txt) : wsplit s = splitN 32 s := by
  have key : ∀ (n : Nat) (t : Txt), t.length ≤ n → wsplit t = splitN 32 t := by
    intro n
    induction n with
    | zero =>
      intro t ht
      obtain rfl : t = [] := List.eq_nil_of_length_eq_zero (by omega)
      rw [wsplit_one (by simp)]
      rfl
    | succ n ih =>
      intro t ht
      by_cases h : (32 : UInt8) ∈ t
      · obtain ⟨a, r, rfl, ha⟩ := cutB_of_mem 32 t h
        rw [wsplit_cons ha, splitN_line 32 a r ha]
        simp only [List.length_append, List.length_cons] at ht
        rw [ih r (by omega)]
      · rw [wsplit_one h, splitN_one 32 t h]
  exact key s.length s (Nat.le_refl _)
/-- A number, as a script's file line has it. -/
def numI (d : Txt) : Option Nat := match Lib.atoiAll d with
  | .ok v => if 0 ≤ v then some v.toNat else none
  | _ => none
theorem numI_ok {d : Txt} {v : Int} (h : Lib.atoiAll d = .ok v) : numI d = if 0 ≤ v then some v.toNat else none := by unfold numI; rw [h]
theorem numI_bad {d : Txt} (h : ∀ v, Lib.atoiAll d ≠ .ok v) : numI d = none := by
  unfold numI
  split
  · rename_i v e
    exact absurd e (h v)
  · rfl
theorem dec_okI (n : Nat) (h : n ≤ 2048) : DecOk numI (fun n => Lib.itoa (n : Int)) n := by
  have e : Lib.itoa (n : Int) = Lib.decDigits n := by
    unfold Lib.itoa
    rw [if_neg (by omega), Int.toNat_natCast]
  refine ⟨ito_noD (by omega) (by decide), ito_noD (by omega) (by decide), ?_, ?_⟩
  · show (Lib.itoa (n : Int)).length ≤ 4
    rw [e]
    exact digits_shortD 3 n (by omega)
  · show numI (Lib.itoa (n : Int)) = some n
    rw [numI_ok (atoi_backD (by omega) (by omega)), if_pos (by omega), Int.toNat_natCast]
end Go.Proofs.YtibndaianhlcaaaGreatDoor
