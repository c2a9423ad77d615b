/- machine.may. Cells written one after the other. slices.Delete at units. machine.stop. -/
import Derived.Test.YtibndaianhlcaaaGreatDoorPart8
import Derived.Test.YtibndaianhlcaaaGreatDoorPart9
import Derived.Test.YtibndaianhlcaaaGreatDoorPart2
import Derived.Test.YtibndaianhlcaaaGreatDoorPart4
import Derived.Deep.RegionLaw
import Derived.Lib.SliceRun
namespace Go.Proofs.YtibndaianhlcaaaGreatDoor
open Go.RowKit Go.Sort Go.Shelf
set_option linter.unusedVariables false
set_option linter.unusedSimpArgs false

theorem strs_one20 (l : List Txt) : ∀ u ∈ l.map encStr, u.oneCell' = true := by
  intro u hu
  obtain ⟨c, _, rfl⟩ := List.mem_map.1 hu
  rfl
def badR (x : Nat) : Bool := decide (x < 32 ∨ 126 < x)
theorem decodeN_high (n b0 b1 b2 b3 : Nat) (h : 128 ≤ b0) : 128 ≤ (Lib.decodeN n b0 b1 b2 b3).1 := by
  unfold Lib.decodeN
  rw [if_neg (by omega)]
  repeat' split
  all_goals simp only
  all_goals omega
theorem decodeN_low (n b0 b1 b2 b3 : Nat) (h : b0 < 128) : Lib.decodeN n b0 b1 b2 b3 = (b0, 1) := by
  unfold Lib.decodeN
  rw [if_pos h]
theorem get_txt (t : Txt) (i : Nat) (h : i < t.length) : (ByteArray.mk t.toArray).get! i = t[i] := by
  simp [ByteArray.get!, h]
theorem bad_print (c : UInt8) : badR c.toNat = !printB c := by
  unfold badR printB
  by_cases h : 32 ≤ c.toNat ∧ c.toNat ≤ 126
  · rw [decide_eq_true h, decide_eq_false (by omega)]; rfl
  · rw [decide_eq_false h, decide_eq_true (by omega)]; rfl
theorem idx_print (t : Txt) : ∀ (f pos : Nat), t.length ≤ pos + f → (Lib.idxFuncFrom badR true ⟨t.toArray⟩ f pos < 0 ↔ (t.drop pos).all printB = true)
  | 0, pos, h => by
    rw [List.drop_eq_nil_of_le (by omega)]
    simp [Lib.idxFuncFrom]
  | f + 1, pos, h => by
    have hsz : (ByteArray.mk t.toArray).size = t.length := by simp [ByteArray.size]
    unfold Lib.idxFuncFrom
    rw [hsz]
    by_cases hp : pos < t.length
    · rw [if_pos hp, List.drop_eq_getElem_cons hp, List.all_cons, Lib.decode_at, get_txt t pos hp]
      by_cases hc : t[pos].toNat < 128
      · rw [decodeN_low _ _ _ _ _ hc, bad_print]
        simp only
        cases hpr : printB t[pos] with
        | true =>
          simp only [Bool.not_true, Bool.false_eq_true, if_false, Bool.true_and]
          exact idx_print t f (pos + 1) (by omega)
        | false =>
          simp only [Bool.not_false, if_true, Bool.false_and]
          constructor
          · intro h9; omega
          · intro h9; cases h9
      · have h1 := decodeN_high ((ByteArray.mk t.toArray).size - pos) t[pos].toNat ((ByteArray.mk t.toArray).get! (pos + 1)).toNat ((ByteArray.mk t.toArray).get! (pos + 2)).toNat ((ByteArray.mk t.toArray).get! (pos + 3)).toNat (by omega)
        rw [if_pos (by unfold badR; exact decide_eq_true (by omega))]
        have hpr : printB t[pos] = false := by unfold printB; exact decide_eq_false (by omega)
        rw [hpr, Bool.false_and]
        constructor
        · intro h9; omega
        · intro h9; cases h9
    · rw [if_neg hp, List.drop_eq_nil_of_le (by omega)]
      simp
theorem idx_any20 (t : Txt) (w : World) : Calls Tryz.prog 141 #[.string ⟨t.toArray⟩, .func (.func 142) #[] #[]] w fun e w' => ∃ i : Int, e = .returned (.int .i64 i) ∧ (decide (i < 0) = t.all printB) ∧ Below w.heap.size w w' := by
  refine (Tryz.strings_IndexFunc_runes 142 #[] (enters_of Tryz.func142 (by kernel_rfl) rfl) badR ⟨t.toArray⟩ w ?_).mono ?_
  · intro W x hx hb
    unfold FnGives
    show Calls Tryz.prog 142 #[.int .i32 (x : Int)] W _
    by_cases h1 : x < 32
    · have h1' : (x : Int) < 32 := by omega
      have HD := Lib.hid (show badR x = true from decide_eq_true (.inl h1))
      go_enter Tryz.func142, Tryz.ntmps142
      go_wp2
      go_ret
      exact ⟨by rw [HD.out]; rfl, 0, rfl⟩
    · have h1' : ¬ (x : Int) < 32 := by omega
      by_cases h2 : 126 < x
      · have h2' : (126 : Int) < (x : Int) := by omega
        have HD := Lib.hid (show badR x = true from decide_eq_true (.inr h2))
        go_enter Tryz.func142, Tryz.ntmps142
        go_wp2
        go_ret
        exact ⟨by rw [HD.out]; rfl, 0, rfl⟩
      · have h2' : ¬ (126 : Int) < (x : Int) := by omega
        have HD := Lib.hid (show badR x = false from decide_eq_false (by omega))
        go_enter Tryz.func142, Tryz.ntmps142
        go_wp2
        go_ret
        exact ⟨by rw [HD.out]; rfl, 0, rfl⟩
  · rintro e w' ⟨rfl, hb⟩
    refine ⟨_, rfl, ?_, hb⟩
    have h := idx_print t t.length 0 (by omega)
    rw [List.drop_zero] at h
    have hsz : (ByteArray.mk t.toArray).size = t.length := by simp [ByteArray.size]
    unfold Lib.idxFunc
    rw [hsz]
    by_cases h0 : t.all printB = true
    · rw [h0]; exact decide_eq_true (h.2 h0)
    · rw [show t.all printB = false by simpa using h0]; exact decide_eq_false (fun h9 => h0 (h.1 h9))
/-- The names of a unit, in memory of the call's own. -/
structure Names20 (w W : World) (u : SV) (A1 : Option Addr) (c1 : Nat) (w1 : World) (A2 : Option Addr) (c2 : Nat) (w2 : World) : Prop where
  r1 : (Builtin.append_ #[23, 23] 23 #[.slice (some ⟨W.heap.size, 0, none⟩) 1 1, .slice u.A u.n u.c]).run Tryz.prog (W.alloc (.cells #[.string ⟨u.name.toArray⟩] 9)) = .ok (.slice A1 (1 + u.n) c1) w1
  r2 : (Builtin.append_ #[23, 23] 23 #[.slice A1 (1 + u.n) c1, .slice u.A2 u.n2 u.c2]).run Tryz.prog w1 = .ok (.slice A2 (1 + u.n + u.n2) c2) w2
  row : Slc w2 w2.heap.size 1 A2 (1 + u.n + u.n2) c2 ((u.name :: (u.req ++ u.aft)).map encStr)
  bel1 : Below W.heap.size W w1
  bel : Below W.heap.size W w2
theorem names20 {w W : World} {B : Nat} (u : SV) (h1 : Slc W B 1 u.A u.n u.c (u.req.map encStr)) (h2 : Slc W B 1 u.A2 u.n2 u.c2 (u.aft.map encStr)) (hB : B ≤ W.heap.size) (hn : u.n ≤ 1000000000 ∧ u.n2 ≤ 1000000000) :
    ∃ A1 c1 w1 A2 c2 w2, Names20 w W u A1 c1 w1 A2 c2 w2 := by
  obtain ⟨i, hi, hz0, hz1, hz2⟩ := info_parts str_info
  have ho : (W.alloc (.cells #[.string ⟨u.name.toArray⟩] 9)).ownsRow W.heap.size 9 1 (.slice (some ⟨W.heap.size, 0, none⟩) 1 1) 1 [encStr u.name] := ⟨rfl, .inr ⟨W.heap.size, 1, _, rfl, Nat.le_refl _, heap_alloc_new W _, Nat.le_refl _, by decide, rfl, rfl⟩⟩
  have hb0 : Below W.heap.size W (W.alloc (.cells #[.string ⟨u.name.toArray⟩] 9)) := (Below.refl _ W).alloc (Nat.le_refl _) _
  obtain ⟨A1, c1, w1, r1, o1, g1, _⟩ := append_slc (P := Tryz.prog) (W.alloc (.cells #[.string ⟨u.name.toArray⟩] 9)) W.heap.size 23 23 _ i _ 1 16 Tryz.underlying23 hi hz0 hz1 hz2 rfl (by decide) _ 1 _ ho B u.A u.n u.c (u.req.map encStr) (h1.below (hb0.mono hB)) (strs_one20 u.req) (by unfold maxLen; omega) (by omega) (by simp)
  have hb1 := grown_below hb0 ho (by simp) g1
  obtain ⟨A2, c2, w2, r2, o2, g2, _⟩ := append_slc (P := Tryz.prog) w1 W.heap.size 23 23 _ i _ 1 16 Tryz.underlying23 hi hz0 hz1 hz2 rfl (by decide) _ _ _ o1 B u.A2 u.n2 u.c2 (u.aft.map encStr) (h2.below (hb1.mono hB)) (strs_one20 u.aft) (by unfold maxLen; omega) (by omega) hb1.size
  have hb2 := grown_below hb1 o1 hb1.size g2
  have he : [encStr u.name] ++ u.req.map encStr ++ u.aft.map encStr = (u.name :: (u.req ++ u.aft)).map encStr := by simp
  rw [he] at o2
  exact ⟨A1, c1, w1, A2, c2, w2, r1, r2, own_slc_of o2, hb1, hb2⟩
set_option maxRecDepth 100000 in
set_option maxHeartbeats 2000000 in
theorem may_any20 {w : World} {B : Nat} (u : SV) (h1 : Slc w B 1 u.A u.n u.c (u.req.map encStr)) (h2 : Slc w B 1 u.A2 u.n2 u.c2 (u.aft.map encStr)) (hB : B ≤ w.heap.size) (hn : u.n ≤ 1000000000 ∧ u.n2 ≤ 1000000000) (hs : ∀ t ∈ u.name :: (u.req ++ u.aft), t.length ≤ 1000000000) (hst : u.start.length ≤ 1000000000) :
    Calls Tryz.prog 118 #[.agg (svArr u)] w fun e w' => e = .returned (.bool (mayU u.srv)) ∧ Below w.heap.size w w' := by
  have hbv : Below w.heap.size w (w.alloc (.cells (svArr u) 59)).drew := ((Below.refl _ w).alloc (Nat.le_refl _) _).drew
  have hzv : (w.alloc (.cells (svArr u) 59)).drew.heap.size = w.heap.size + 1 := by simp
  have hGv : Blk (w.alloc (.cells (svArr u) 59)).drew w.heap.size 59 (svArr u) := (Blk.new _ _ _).drew
  obtain ⟨A1, c1, w1, A2, c2, w2, S⟩ := names20 (w := w) u (h1.below (hbv.mono hB)) (h2.below (hbv.mono hB)) (by rw [hzv]; omega) hn
  have HG2 := Lib.hid (hGv.below S.bel hGv.lt)
  have HG1 := Lib.hid (hGv.below S.bel1 hGv.lt)
  have HG0 := Lib.hid hGv
  have HB2 := Lib.hid (hbv.trans (S.bel.mono (by rw [hzv]; omega)))
  have HW := Lib.hid S.row
  have r1 := S.r1
  have r2 := S.r2
  rw [hzv] at r1
  obtain ⟨L, hL⟩ : ∃ L, L = u.name :: (u.req ++ u.aft) := ⟨_, rfl⟩
  have HM := Lib.hid (show mayU u.srv = (L.all nameB && decide (1 ≤ u.start.length ∧ u.start.length ≤ 120) && u.start.all printB) by rw [hL]; rfl)
  rw [← hL] at HW hs
  have hLn : L.length = 1 + u.n + u.n2 := by have e1 := h1.len; have e2 := h2.len; rw [List.length_map] at e1 e2; rw [hL]; simp; omega
  obtain ⟨N, hN⟩ : ∃ N, N = 1 + u.n + u.n2 := ⟨_, rfl⟩
  rw [← hN] at r2 HW hLn
  have hN62 : N ≤ 9000000000 := by omega
  have hw2 : w.heap.size < w2.heap.size := by have := S.bel.size; omega
  have HS := Lib.hid hs
  have HLN := Lib.hid hLn
  have HN := Lib.hid hN
  clear h1 h2 hB hn S hbv hzv hGv hL hs hLn hN
  have HLEN : Hid (u.start.length ≤ 1000000000) := hst
  obtain ⟨nm, st, rq, A, n, c, af, A', n', c'⟩ := u
  have x0 := HG0.out.cell 0
  have x1 := HG0.out.cell 1
  have x2 := HG0.out.cell 2
  have x3 := HG0.out.cell 3
  have y2 := HG1.out.cell 2
  have y3 := HG1.out.cell 3
  unfold svArr at r1 x0 x1 x2 x3 y2 y3 ⊢
  simp only [List.getElem?_toArray, List.getElem?_cons_zero, List.getElem?_cons_succ] at x0 x1 x2 x3 y2 y3
  simp only at r1 r2
  have r1' : (Builtin.append_ #[23, 23] 23 #[.slice (some ⟨w.heap.size + 1, 0, none⟩) 1 1, .slice A n c]).run Tryz.prog ((w.alloc (.cells #[.string ⟨nm.toArray⟩, .string ⟨st.toArray⟩, .slice A n c, .slice A' n' c'] 59)).alloc (.cells #[.string ⟨nm.toArray⟩] 9)).drew = .ok (.slice A1 (1 + n) c1) w1 := r1
  have HR1 := Lib.hid r1'
  clear r1'
  have HR2 := Lib.hid r2
  have HX := Lib.hid (And.intro x0 (And.intro x2 x3))
  have HGA := Lib.hid ((HG0.out).alloc (.cells #[.string ⟨nm.toArray⟩] 9))
  have HXA := Lib.hid (And.intro (HGA.out.cell 0) (And.intro (HGA.out.cell 2) (HGA.out.cell 3)))
  have HX1 := Lib.hid (And.intro (HG1.out.cell 0) (And.intro (HG1.out.cell 2) (HG1.out.cell 3)))
  have HX2 := Lib.hid (And.intro (HG2.out.cell 0) (And.intro (HG2.out.cell 2) (HG2.out.cell 3)))
  clear r1 r2 x0 x1 x2 x3 y2 y3
  go_enter Tryz.func118, Tryz.ntmps118
  go_wp2_with (fail)
  go_region_held3 (fun W' => W'.cell? ⟨w.heap.size, 0, none⟩ = some (.string ⟨nm.toArray⟩) ∧ W'.cell? ⟨w.heap.size, 2, none⟩ = some (.slice A n c) ∧ W'.cell? ⟨w.heap.size, 3, none⟩ = some (.slice A' n' c')) (first | exact HX.out | exact HXA.out | exact HX1.out | exact HX2.out) (first
    | (refine step_append_at (by rfl) _ _ _ (by rfl) HR1.out (by with_reducible rfl) (by rfl) (by rfl) (by rfl) ?_)
    | (refine step_append_at (by rfl) _ _ _ (by rfl) HR2.out (by with_reducible rfl) (by rfl) (by rfl) (by rfl) ?_))
  go_wp2_with (fail)
  go_loopw [15] (fun i wr => ∃ k : Nat, k ≤ N ∧ i = .int .i64 (k : Int) ∧ Aside ((L.take k).all nameB = true) ∧ Aside (Below w2.heap.size w2 wr)) (fun i _ => N - (intOf i).toNat)
  case atStart => exact ⟨0, Nat.zero_le _, rfl, rfl, Below.refl _ _⟩
  case round =>
    obtain ⟨k, hk, rfl, hall, hb⟩ := hrel
    by_cases hlt : k < N
    · obtain ⟨b, off, rfl, hbB, hc⟩ := (HW.out.below hb.out).at_ (by omega)
      have hkL : k < L.length := by rw [HLN.out]; exact hlt
      have c0 : wr.cell? ⟨b, off + k, none⟩ = some (.string ⟨L[k].toArray⟩) := hc k _ (by rw [List.getElem?_map, List.getElem?_eq_getElem hkL]; rfl)
      have hsh := HS.out _ (List.getElem_mem hkL)
      have hnm := name_any ⟨L[k].toArray⟩ wr (by show L[k].toArray.size ≤ maxLen; rw [List.size_toArray]; unfold maxLen; omega)
      have HTK := Lib.hid (show (L.take (k + 1)).all nameB = nameB L[k] by rw [List.take_succ_eq_append_getElem hkL, List.all_append, hall.out]; simp)
      have HAL := Lib.hid (show nameB L[k] = false → L.all nameB = false from fun h9 => by rw [List.all_eq_false]; exact ⟨_, List.getElem_mem hkL, by rw [h9]; decide⟩)
      generalize L[k] = t at *
      have ht : (ByteArray.mk t.toArray).data.toList = t := rfl
      rw [ht] at hnm
      clear hc hsh ht
      cases hb9 : nameB t with
      | false =>
        rw [hb9] at hnm
        have HF := Lib.hid (show mayU ⟨nm, st, rq, af⟩ = false by have h8 := HM.out; rw [HAL.out hb9] at h8; exact h8)
        clear hb9
        go_wp2_with (go_at_call 39; refine hnm.mono ?_; clear hnm; rintro e9 w9 ⟨rfl, hb9⟩; have HB9 := Lib.hid (hb.out.trans (hb9.mono hb.out.size)); clear hb9)
        go_ret
        exact ⟨by show _ = Ending.returned (.bool (mayU ⟨nm, st, rq, af⟩)); rw [HF.out]; rfl, HB2.out.trans (HB9.out.mono (by have := HB2.out.size; omega))⟩
      | true =>
        rw [hb9] at hnm
        have HT := Lib.hid (HTK.out.trans hb9)
        clear hb9
        go_wp2_with (go_at_call 39; refine hnm.mono ?_; clear hnm; rintro e9 w9 ⟨rfl, hb9⟩; have HB9 := Lib.hid (hb.out.trans (hb9.mono hb.out.size)); clear hb9)
        exact ⟨⟨k + 1, by omega, by go_num, HT.out, HB9.out⟩, by simp [intOf]; omega⟩
    · have HM2 := Lib.hid (show mayU ⟨nm, st, rq, af⟩ = (decide (1 ≤ st.length ∧ st.length ≤ 120) && st.all printB) by
        have h8 := HM.out
        have h9 := hall.out
        rw [List.take_of_length_le (by have := HLN.out; omega)] at h9
        rw [h9, Bool.true_and] at h8
        exact h8)
      have hGr := HG2.out.below hb.out hw2
      have z1 := hGr.cell 1
      unfold svArr at z1
      simp only [List.getElem?_toArray, List.getElem?_cons_zero, List.getElem?_cons_succ] at z1
      have HBR := Lib.hid (HB2.out.trans (hb.out.mono (by have := HB2.out.size; omega)))
      have tst : (ByteArray.mk st.toArray).toList = st := Go.ByteArray.toList_eq _
      have hi := idx_any20 st wr
      clear hGr HG0 HG1 HG2 HX HX1 HX2 HXA HGA
      by_cases hs0 : st = []
      · subst hs0
        have HF := Lib.hid (show mayU ⟨nm, [], rq, af⟩ = false by rw [HM2.out]; rfl)
        go_wp2_with (fail)
        go_ret
        exact ⟨by show _ = Ending.returned (.bool (mayU ⟨nm, [], rq, af⟩)); rw [HF.out]; rfl, HBR.out⟩
      · have hse : st.isEmpty = false := by cases st with | nil => exact absurd rfl hs0 | cons => rfl
        have hlen1 : 1 ≤ st.length := by cases st with | nil => exact absurd rfl hs0 | cons => simp
        by_cases hs1 : 120 < st.length
        · have HF := Lib.hid (show mayU ⟨nm, st, rq, af⟩ = false by rw [HM2.out, decide_eq_false (by omega)]; rfl)
          have hs2 : ¬ (st.length : Int) ≤ 120 := by omega
          go_wp2_with (fail)
          go_ret
          exact ⟨by show _ = Ending.returned (.bool (mayU ⟨nm, st, rq, af⟩)); rw [HF.out]; rfl, HBR.out⟩
        · have HF := Lib.hid (show mayU ⟨nm, st, rq, af⟩ = st.all printB by rw [HM2.out, decide_eq_true (by omega)]; rfl)
          have hs2 : (st.length : Int) ≤ 120 := by omega
          go_wp2_with (go_at_call 141; refine hi.mono ?_; clear hi; rintro e9 w9 ⟨i, rfl, hdi, hb9⟩)
          go_ret
          exact ⟨by show _ = Ending.returned (.bool (mayU ⟨nm, st, rq, af⟩)); rw [HF.out]; rfl, HBR.out.trans (hb9.mono HBR.out.size)⟩
end Go.Proofs.YtibndaianhlcaaaGreatDoor
namespace Go.Proofs.YtibndaianhlcaaaGreatDoor
open Go.RowKit Go.Sort
set_option linter.unusedVariables false
set_option linter.unusedSimpArgs false

def sets (cs : Array Value) : Nat → List Value → Array Value
  | _, [] => cs
  | o, v :: r => sets (cs.setIfInBounds o v) (o + 1) r
theorem Blk.setCells {g : Nat} {t : TypeId} : ∀ (vs : List Value) (o : Nat) {w : World} {cs : Array Value}, Blk w g t cs → Blk (w.setCells g o vs) g t (sets cs o vs)
  | [], _, _, _, h => h
  | v :: r, o, _, _, h => Blk.setCells r (o + 1) (h.set_ o v)
theorem below_setCells {B : Nat} {a : World} {g : Nat} (hg : B ≤ g) : ∀ (vs : List Value) (o : Nat) {w : World}, Below B a w → Below B a (w.setCells g o vs)
  | [], _, _, h => h
  | v :: r, o, _, h => below_setCells hg r (o + 1) (h.setCell hg v)
theorem sets_size : ∀ (vs : List Value) (o : Nat) (cs : Array Value), (sets cs o vs).size = cs.size
  | [], _, _ => rfl
  | v :: r, o, cs => by rw [sets, sets_size r]; simp
theorem sets_list : ∀ (vs : List Value) (o : Nat) (cs : Array Value), o + vs.length ≤ cs.size → (sets cs o vs).toList = cs.toList.take o ++ vs ++ cs.toList.drop (o + vs.length)
  | [], o, cs, _ => by simp [sets]
  | v :: r, o, cs, h => by
    rw [List.length_cons] at h
    rw [sets, sets_list r (o + 1) _ (by simp; omega)]
    have hl : o < cs.toList.length := by simp; omega
    have e : (cs.setIfInBounds o v).toList = cs.toList.take o ++ v :: cs.toList.drop (o + 1) := by
      rw [Array.toList_setIfInBounds, List.set_eq_take_append_cons_drop, if_pos hl]
    have hlt : (cs.toList.take o).length = o := by rw [List.length_take]; omega
    rw [e, List.take_append, hlt, show o + 1 - o = 1 by omega, List.take_of_length_le (by omega), List.drop_append, hlt]
    have hnil : List.drop (o + 1 + r.length) (List.take o cs.toList) = [] := List.drop_eq_nil_of_le (by omega)
    rw [hnil]
    rw [show o + 1 + r.length - o = r.length + 1 by omega]
    simp only [List.take_succ_cons, List.take_zero, List.drop_succ_cons, List.nil_append, List.drop_drop, List.length_cons, List.append_assoc, List.cons_append]
    rw [show o + 1 + r.length = o + (r.length + 1) by omega]
theorem grownBy_setCells {g : Nat} : ∀ (vs : List Value) (o : Nat) {a w : World}, a.grownBy w (some g) → a.grownBy (w.setCells g o vs) (some g)
  | [], _, _, _, h => h
  | v :: r, o, a, w, h => grownBy_setCells r (o + 1) ⟨h.os, h.tape, h.output, by simpa [World.setCell] using h.size, fun k hk hne => by
      rw [Below.heap_setCell w ⟨g, o, none⟩ v k (fun e => hne (by rw [e]))]; exact h.block k hk hne⟩
theorem flatMap_take {α : Type} (g : α → List Value) (sz : Nat) : ∀ (l : List α) (k : Nat), (∀ x ∈ l, (g x).length = sz) → (l.flatMap g).take (k * sz) = (l.take k).flatMap g ∧ (l.flatMap g).drop (k * sz) = (l.drop k).flatMap g
  | [], k, _ => by simp
  | x :: l, 0, _ => by simp
  | x :: l, k + 1, h => by
    have hx := h x List.mem_cons_self
    have ih := flatMap_take g sz l k (fun y hy => h y (List.mem_cons_of_mem _ hy))
    rw [List.flatMap_cons, Nat.succ_mul, List.take_succ_cons, List.flatMap_cons, List.drop_succ_cons]
    constructor
    · rw [List.take_append, hx, List.take_of_length_le (by omega), show k * sz + sz - sz = k * sz by omega, ih.1]
    · rw [List.drop_append, hx, List.drop_eq_nil_of_le (by omega), show k * sz + sz - sz = k * sz by omega, ih.2, List.nil_append]

end Go.Proofs.YtibndaianhlcaaaGreatDoor
namespace Go.Proofs.YtibndaianhlcaaaGreatDoor
open Go.RowKit Go.Sort
set_option linter.unusedVariables false
set_option linter.unusedSimpArgs false

theorem unit_info : (Tryz.prog.info? 59).map (fun i => (i.zero, i.size, i.bytes)) = some (some (.agg #[.string .empty, .string .empty, .slice none 0 0, .slice none 0 0]), 4, 80) := by kernel_rfl
theorem unit_zero : ∀ w, (zeroValue 59).run Tryz.prog w = .ok (.agg #[.string .empty, .string .empty, .slice none 0 0, .slice none 0 0]) w := Tryz.zeroValue59
/-- clear of one generation. -/
theorem run_clear_unit (w : World) (ty : TypeId) (b o c : Nat) (hc : ∀ j, j < 4 → (w.cell? ⟨b, o + j, none⟩).isSome = true) (hf : ∀ j, j < 4 → w.frozen? ⟨b, o + j, none⟩ = false) :
    (Builtin.clear_ #[24] ty #[.slice (some ⟨b, o, none⟩) 1 c]).run Tryz.prog w = .ok (.tuple #[]) (w.setCells b o [.string ⟨#[]⟩, .string ⟨#[]⟩, .slice none 0 0, .slice none 0 0]) := by
  have hst := run_storeCells_cells (P := Tryz.prog) b o [.string ⟨#[]⟩, .string ⟨#[]⟩, .slice none 0 0, .slice none 0 0] 0 w (by simpa using hc) (by simpa using hf) (by intro v hv; simp only [List.mem_cons, List.not_mem_nil, or_false] at hv; rcases hv with rfl | rfl | rfl | rfl <;> rfl)
  simp only [Nat.add_zero] at hst
  have hz : (Builtin.zeroCells (Value.agg #[.string ⟨#[]⟩, .string ⟨#[]⟩, .slice none 0 0, .slice none 0 0]).cells 1).toList = [.string ⟨#[]⟩, .string ⟨#[]⟩, .slice none 0 0, .slice none 0 0] := by kernel_rfl
  simp [Builtin.clear_, run_underlying Tryz.underlying24, unit_zero, hz, hst]

set_option maxHeartbeats 4000000 in
set_option maxRecDepth 100000 in
theorem deleteU_any {w : World} {base : Nat} {A : Option Addr} {n c : Nat} {l : List SV} (h : w.ownsRow base 59 4 (.slice A n c) n (l.flatMap svCells)) (i j : Nat) (hj : j = i + 1) (hi : i < n) :
    Calls Tryz.prog 110 #[.slice A n c, .int .i64 (i : Int), .int .i64 (j : Int)] w fun e w' => e = .returned (.slice A (n - 1) c) ∧
      w'.ownsRow base 59 4 (.slice A (n - 1) c) (n - 1) ((l.take i ++ l.drop j).flatMap svCells) ∧ w.grownBy w' (Value.slice A n c).ownBlock := by
  have hlen : l.length = n := by have h9 := h.1; rw [flatMap_len svCells 4 l (fun o _ => svCells_length o)] at h9; omega
  rcases h.2 with ⟨_, h0⟩ | ⟨g, cap, cur, e, hbase, hb, h1, h2, h3, h4⟩
  · omega
  injection e with e1 _ e3
  subst e1 e3
  have hB : Blk w g 59 cur := hb
  have hfm := flatMap_take svCells 4 l
  obtain ⟨news, hnews⟩ : ∃ news, news = (l.drop j).flatMap svCells := ⟨_, rfl⟩
  have hnl : news.length = (n - j) * 4 := by rw [hnews, flatMap_len svCells 4 _ (fun o _ => svCells_length o), List.length_drop, hlen]
  have hcellN : ∀ t u, news[t]? = some u → cur.toList[j * 4 + t]? = some u := by
    intro t u hu
    have ht := (List.getElem?_eq_some_iff.1 hu).1
    rw [hnews, ← (hfm j (fun o _ => svCells_length o)).2, List.getElem?_drop, ← h4, List.getElem?_take_of_lt (by omega)] at hu
    exact hu
  obtain ⟨AD, hA, hsrc⟩ : ∃ AD : Addr, (if c = j then some (⟨g, 0, none⟩ : Addr) else some ⟨g, j * 4, none⟩) = some AD ∧ Hid (∀ t u, news[t]? = some u → w.drew.cell? (AD.add t) = some u) := by
    by_cases hcj : c = j
    · refine ⟨⟨g, 0, none⟩, by simp [hcj], fun t u hu => ?_⟩
      have h0 : news.length = 0 := by rw [hnl]; omega
      rw [List.length_eq_zero_iff.1 h0] at hu
      simp at hu
    · refine ⟨⟨g, j * 4, none⟩, by simp [hcj], fun t u hu => ?_⟩
      rw [addr_of_add]
      have := hB.drew.cell (j * 4 + t)
      rw [this, ← Array.getElem?_toList]
      exact hcellN t u hu
  have s1 : Hid (news.length = (n - j) * 4) := hnl
  have s2 : Hid (∀ u ∈ news, u.oneCell' = true) := by rw [hnews]; exact svCells_one _
  have s3 : Hid (∀ t, t < news.length → (w.drew.cell? ⟨g, 0 + i * 4 + t, none⟩).isSome = true ∧ w.drew.frozen? ⟨g, 0 + i * 4 + t, none⟩ = false) := by
    intro t ht
    refine ⟨?_, hB.drew.frozen _⟩
    rw [hB.drew.cell, Array.getElem?_eq_getElem (by omega)]
    rfl
  obtain ⟨i0, hi0, hz0, hz1, hz2⟩ := info_parts unit_info
  obtain ⟨W1, hW1⟩ : ∃ W1, W1 = w.drew.setCells g (0 + i * 4) news := ⟨_, rfl⟩
  have hB1 : Blk W1 g 59 (sets cur (0 + i * 4) news) := by rw [hW1]; exact Blk.setCells news _ hB.drew
  have hcl : ∀ ty, (Builtin.clear_ #[24] ty #[.slice (some ⟨g, (i + (n - j)) * 4, none⟩) (n - (i + (n - j))) (c - (i + (n - j)))]).run Tryz.prog W1 = .ok (.tuple #[]) (W1.setCells g ((i + (n - j)) * 4) [.string ⟨#[]⟩, .string ⟨#[]⟩, .slice none 0 0, .slice none 0 0]) := fun ty => by
    rw [show n - (i + (n - j)) = 1 by omega]
    exact run_clear_unit W1 ty g ((i + (n - j)) * 4) _ (fun t ht => by rw [hB1.cell, Array.getElem?_eq_getElem (by rw [sets_size]; omega)]; rfl) (fun t _ => hB1.frozen _)
  have hW : Hid (W1 = w.drew.setCells g (0 + i * 4) news) := hW1
  have HB1 := Lib.hid hB1
  have hci : i ≤ c := by omega
  have hcj : j ≤ c := by omega
  have HJ := Lib.hid hj
  have hij : i < j := by omega
  have hjn : j ≤ n := by omega
  have hne : ((i : Int) == (j : Int)) = false := by simp; omega
  have H4 := Lib.hid h4
  have HNW := Lib.hid hnews
  clear hW1 hB1 hB hb hcellN hj h4 hnews hfm
  go_enter Tryz.func110, Tryz.ntmps110
  go_wp2_with fail
  go_region_law (refine step_append_room rfl (.tmp 22) (.tmp 25) 24 rfl 59 i0 4 Tryz.underlying24 hi0 hz1 g 0 i c (by simp [Act.eval, Act.put]) AD (n - j) (c - j) news (by simp [Act.eval, Act.put]) s1.out hsrc.out s2.out (by omega) s3.out ?_; rw [← hW.out])
  go_wp2
  go_ret
  have hj := HJ.out
  have hm : i + (n - j) = n - 1 := by omega
  have hB2 := Blk.setCells [.string ⟨#[]⟩, .string ⟨#[]⟩, .slice none 0 0, .slice none 0 0] ((i + (n - j)) * 4) HB1.out
  refine ⟨by rw [← hm]; rfl, ⟨?_, .inr ⟨g, c, _, rfl, hbase, hB2, by omega, h2, by rw [sets_size, sets_size, h3], ?_⟩⟩, ?_⟩
  · rw [flatMap_len svCells 4 _ (fun o _ => svCells_length o), List.length_append, List.length_take, List.length_drop]
    omega
  · have hcl : cur.toList.length = c * 4 := by simp [h3]
    have hsz : (sets cur (0 + i * 4) news).toList.length = c * 4 := by rw [Array.length_toList, sets_size, h3]
    rw [sets_list _ _ _ (by rw [sets_size, h3]; simp only [List.length_cons, List.length_nil]; omega), hm]
    have hl1 : ((sets cur (0 + i * 4) news).toList.take ((n - 1) * 4)).length = (n - 1) * 4 := by rw [List.length_take, hsz]; omega
    rw [List.append_assoc, List.take_append, hl1, Nat.sub_self, List.take_zero, List.append_nil, List.take_take, Nat.min_self]
    rw [sets_list _ _ _ (by rw [h3]; have := s1.out; omega), Nat.zero_add]
    have hl2 : (cur.toList.take (i * 4) ++ news).length = (n - 1) * 4 := by rw [List.length_append, List.length_take, s1.out, hcl]; omega
    rw [List.take_append, hl2, Nat.sub_self, List.take_zero, List.append_nil, List.take_of_length_le (by omega), List.flatMap_append]
    congr 1
    · have h5 := congrArg (List.take (i * 4)) H4.out
      rw [List.take_take, show min (i * 4) (n * 4) = i * 4 by omega] at h5
      rw [h5]
      exact (flatMap_take svCells 4 l i (fun o _ => svCells_length o)).1
  · have h0 : w.grownBy w.drew (some g) := ⟨rfl, rfl, rfl, Nat.le_refl _, fun _ _ _ => rfl⟩
    have h5 := grownBy_setCells [.string ⟨#[]⟩, .string ⟨#[]⟩, .slice none 0 0, .slice none 0 0] ((i + (n - j)) * 4) (grownBy_setCells news (0 + i * 4) h0)
    rw [← hW.out] at h5
    exact h5

end Go.Proofs.YtibndaianhlcaaaGreatDoor
namespace Go.Proofs.YtibndaianhlcaaaGreatDoor
open Go.RowKit Go.Sort Go.Shelf
set_option linter.unusedVariables false
set_option linter.unusedSimpArgs false

theorem grown_other {w w' : World} {row : Option Nat} {T : TypeId} (hg : w.grownBy w' row) (ht : ∀ q, row = some q → ∃ cur fr, w.heap[q]? = some (Obj.cells cur T fr)) {e : TypeId} (he : e ≠ T) :
    ∀ (k : Nat) (cur : Array Value) (fr : Nat × Nat), w.heap[k]? = some (Obj.cells cur e fr) → w'.heap[k]? = w.heap[k]? := fun k cur fr hk => by
  have hlt : k < w.heap.size := by
    rcases Nat.lt_or_ge k w.heap.size with h | h
    · exact h
    · rw [Array.getElem?_eq_none h] at hk; cases hk
  refine hg.block k hlt (fun e1 => ?_)
  obtain ⟨cur', fr', h2⟩ := ht k e1.symm
  rw [h2] at hk
  injection hk with hk
  injection hk with _ hk
  exact he hk.symm
theorem row_typed {w : World} {F : Nat → Prop} {e : TypeId} {sz : Nat} {v : Value} {n : Nat} {xs : List Value} (h : Row w F e sz v n xs) : ∀ q, v.ownBlock = some q → ∃ cur fr, w.heap[q]? = some (Obj.cells cur e fr) := fun q hq => by
  rcases h.own.2 with ⟨rfl, _⟩ | ⟨g, cap, cur, rfl, _, h2, _⟩
  · cases hq
  · injection hq with hq
    subst hq
    exact ⟨cur, (0, 0), h2⟩
theorem own_same (A : Option Addr) (n c m d : Nat) : (Value.slice A n c).ownBlock = (Value.slice A m d).ownBlock := by cases A <;> rfl
theorem mem_cut {α : Type} {us : List α} {i j : Nat} {u : α} (hu : u ∈ us.take i ++ us.drop j) : u ∈ us := by
  rcases List.mem_append.1 hu with hu | hu
  · exact List.mem_of_mem_take hu
  · exact List.mem_of_mem_drop hu
theorem srvs_erase (us : List SV) (i : Nat) : (us.take i ++ us.drop (i + 1)).map SV.srv = (us.map SV.srv).eraseIdx i := by
  rw [List.eraseIdx_eq_take_drop_succ, List.map_append, List.map_take, List.map_drop]
section
variable {w w' : World} {F : Nat → Prop} {g : Nat} {s : Mach} {fA : Option Addr} {fn fc : Nat} {es : List EV} {uA : Option Addr} {un uc : Nat} {nA : Option Addr} {nn nc : Nat} {us : List SV} {pA : Option Addr} {pn pc : Nat}
theorem set_other {w : World} {g : Nat} {T : TypeId} {cs : Array Value} (hB : Blk w g T cs) {e : TypeId} (he : e ≠ T) (i : Nat) (v : Value) : ∀ (k : Nat) (cur : Array Value) (fr : Nat × Nat), w.heap[k]? = some (Obj.cells cur e fr) → (w.setCell ⟨g, i, none⟩ v).heap[k]? = w.heap[k]? := fun k cur fr hk => by
  refine Below.heap_setCell w _ _ k (fun e1 => ?_)
  simp only at e1
  subst e1
  unfold Blk at hB
  rw [hB] at hk
  injection hk with hk
  injection hk with _ hk
  exact he hk.symm
theorem MachV.kept2 (h : MachV w F g s fA fn fc es uA un uc nA nn nc us pA pn pc) (hg : w.grownBy w' (Value.slice nA nn nc).ownBlock) : w'.cell? ⟨g, 2, none⟩ = some (.slice nA nn nc) ∧ w'.frozen? ⟨g, 2, none⟩ = false := by
  have hk := grown_other hg (row_typed h.units) (e := 53) (by decide) g _ (0, 0) h.blk
  have hB : Blk w' g 53 _ := hk.trans h.blk
  exact ⟨hB.cell 2, hB.frozen 2⟩
/-- Its units turn. -/
theorem MachV.setUnits (h : MachV w F g s fA fn fc es uA un uc nA nn nc us pA pn pc) {G : Nat → Prop} (hg : w.grownBy w' (Value.slice nA nn nc).ownBlock) (hF : ∀ k, F k → G k) {nA' : Option Addr} {nn' nc' : Nat} {us' : List SV}
    (hu : Row w' G 59 4 (.slice nA' nn' nc') nn' (us'.flatMap svCells))
    (hq : ∀ u ∈ us', u ∈ us ∨ (Row w' G 9 1 (.slice u.A u.n u.c) u.n (u.req.map encStr) ∧ Row w' G 9 1 (.slice u.A2 u.n2 u.c2) u.n2 (u.aft.map encStr) ∧ ∀ k, (Value.slice uA un uc).ownBlock = some k → (Value.slice u.A u.n u.c).ownBlock ≠ some k ∧ (Value.slice u.A2 u.n2 u.c2).ownBlock ≠ some k)) :
    MachV (w'.setCell ⟨g, 2, none⟩ (.slice nA' nn' nc')) G g ⟨s.files, s.users, us'.map SV.srv, s.plan⟩ fA fn fc es uA un uc nA' nn' nc' us' pA pn pc := by
  have ht := row_typed h.units
  have k1 : ∀ {e : TypeId}, e ≠ 59 → _ := fun {e} he => grown_other hg ht (e := e) he
  have hB : Blk w' g 53 _ := (k1 (by decide) g _ (0, 0) h.blk).trans h.blk
  have k2 : ∀ {e : TypeId}, e ≠ 53 → _ := fun {e} he => set_other hB (e := e) he 2 (.slice nA' nn' nc')
  have hs : w'.heap.size ≤ (w'.setCell ⟨g, 2, none⟩ (.slice nA' nn' nc')).heap.size := by simp [World.setCell]
  refine ⟨hB.set_ 2 _, hF _ h.foot, ((h.files.other (k1 (by decide))).other (k2 (by decide))).wide hF, h.ents, fun e he => (((h.data e he).other (k1 (by decide))).other (k2 (by decide))).wide hF, ((h.users.other (k1 (by decide))).other (k2 (by decide))).wide hF,
    hu.other (k2 (by decide)), rfl, fun u hu' => ?_, fun u hu' => ?_, ((h.plan.other hg.size (k1 (by decide))).other hs (k2 (by decide))).wide hF, fun u hu' => ?_⟩
  · rcases hq u hu' with h1 | ⟨h1, _⟩
    · exact (((h.req u h1).other (k1 (by decide))).other (k2 (by decide))).wide hF
    · exact h1.other (k2 (by decide))
  · rcases hq u hu' with h1 | ⟨_, h1, _⟩
    · exact (((h.aft u h1).other (k1 (by decide))).other (k2 (by decide))).wide hF
    · exact h1.other (k2 (by decide))
  · rcases hq u hu' with h1 | ⟨_, _, h1⟩
    · exact h.sep u h1
    · exact h1
end
/-- What a step of a machine does in memory. -/
def MachPost (w : World) (F : Nat → Prop) (g : Nat) (r : Mach × Int) : Ending → World → Prop := fun e w' => e = .returned (.int .i64 r.2) ∧ MachAt w' (Fn F w w') g r.1 ∧ Step w w' F (Fn F w w')
set_option maxRecDepth 100000 in
set_option maxHeartbeats 2000000 in
theorem stop_any {w : World} {F : Nat → Prop} {g : Nat} {s : Mach} (h : MachAt w F g s) (hn24 : s.units.length ≤ 1000000) (name : Txt) :
    Calls Tryz.prog 83 #[.pointer (some ⟨g, 2, none⟩), .string ⟨name.toArray⟩] w (MachPost w F g (doStop s name)) := by
  obtain ⟨fA, fn, fc, es, uA, un, uc, nA, nn, nc, us, pA, pn, pc, h⟩ := h
  have ha := at_any h name
  have hnl := h.nlen
  have HN := Lib.hid hnl
  have H := Lib.hid h
  cases hh : hasU s.units name with
  | false =>
    have HX := Lib.hid (show doStop s name = (s, 0) by unfold doStop; rw [if_pos hh])
    have hat : atU s.units name = -1 := by unfold atU; rw [if_neg (by rw [hh]; decide)]
    rw [hat] at ha
    clear h hh hat hnl
    go_enter Tryz.func83, Tryz.ntmps83
    go_wp2_with (go_at_call 108; refine ha.mono ?_; clear ha; rintro e w1 ⟨rfl, hb1⟩; have HB1 := Lib.hid hb1; clear hb1)
    go_ret
    rw [HX.out]
    exact ⟨rfl, ⟨fA, fn, fc, es, uA, un, uc, nA, nn, nc, us, pA, pn, pc, (H.out.below HB1.out).wide (fn_wide _ _ _)⟩, (Step.of_below HB1.out F).fn⟩
  | true =>
    obtain ⟨hi, _⟩ := idxU_at hh
    have hat : atU s.units name = (idxU s.units name : Int) := by unfold atU; rw [if_pos hh]
    rw [hat] at ha
    obtain ⟨i, hix⟩ : ∃ i, i = idxU s.units name := ⟨_, rfl⟩
    rw [← hix] at ha hi
    have hin : i < nn := by omega
    have i1 : IntKind.i64.wrap ((i : Int) + 1) = (i : Int) + 1 := IntWalk.i64_in _ (by omega)
    have hneg : ¬ (i : Int) < 0 := by omega
    cases hf : failsP s.plan with
    | true =>
      have HX := Lib.hid (show doStop s name = (⟨s.files, s.users, s.units, s.plan.tail⟩, 71) by unfold doStop; rw [if_neg (by rw [hh]; decide), if_pos hf])
      have HF := Lib.hid hf
      clear h hh hat hnl hix hf i1 hi
      go_enter Tryz.func83, Tryz.ntmps83
      go_wp2_with (first
        | (go_at_call 108; refine ha.mono ?_; clear ha; rintro e w1 ⟨rfl, hb1⟩; have HB1 := Lib.hid hb1; have hfl := fails_any (H.out.below hb1); rw [HF.out] at hfl; clear hb1)
        | (go_at_call 109; refine hfl.mono ?_; clear hfl; rintro e w2 ⟨rfl, hm2, hs2, hz2⟩; have HM2 := Lib.hid hm2; have HS2 := Lib.hid ((Step.of_below HB1.out F).trans hs2); clear hm2 hs2 hz2))
      go_ret
      rw [HX.out]
      obtain ⟨qA, qn, qc, hm⟩ := HM2.out
      exact ⟨rfl, ⟨fA, fn, fc, es, uA, un, uc, nA, nn, nc, us, qA, qn, qc, hm.wide (fn_wide _ _ _)⟩, HS2.out.fn⟩
    | false =>
      have HX := Lib.hid (show doStop s name = (⟨s.files, s.users, s.units.eraseIdx i, s.plan.tail⟩, 0) by unfold doStop; rw [if_neg (by rw [hh]; decide), if_neg (by rw [hf]; decide), hix])
      have HF := Lib.hid hf
      have hi62 : i ≤ 1000000 := by omega
      obtain ⟨j, hj⟩ : ∃ j, j = i + 1 := ⟨_, rfl⟩
      have hji : (i : Int) + 1 = (j : Int) := by omega
      have HJ := Lib.hid hj
      clear h hh hat hnl hix hf hi hn24 i1 hj
      go_enter Tryz.func83, Tryz.ntmps83
      go_wp2_with (first
        | (go_at_call 108; refine ha.mono ?_; clear ha; rintro e w1 ⟨rfl, hb1⟩; have HB1 := Lib.hid hb1; have hfl := fails_any (H.out.below hb1); rw [HF.out] at hfl; clear hb1)
        | (go_at_call 109; refine hfl.mono ?_; clear hfl; rintro e w2 ⟨rfl, hm2, hs2, hz2⟩; obtain ⟨qA, qn, qc, hm2⟩ := hm2; have m2 := hm2.facts.2.2.1; have hdl := deleteU_any hm2.units.own i j HJ.out hin; have HM2 := Lib.hid hm2; have HS2 := Lib.hid ((Step.of_below HB1.out F).trans hs2); clear hm2 hs2 hz2)
        | (go_at_call 110; go_loud (refine hdl.mono ?_; clear hdl; rintro e w3 ⟨rfl, ho3, hg3⟩; have hR3 : Row w3 F 59 4 (.slice nA (nn - 1) nc) (nn - 1) ((us.take i ++ us.drop j).flatMap svCells) := ⟨ho3, fun k hk => HM2.out.units.foot k ((own_same nA nn nc (nn - 1) nc).trans hk)⟩; have hv3 := HM2.out.setUnits hg3 (fun _ h => h) hR3 (fun u hu => .inl (mem_cut hu)); obtain ⟨hB3, hf3⟩ := HM2.out.kept2 hg3; have HV3 := Lib.hid hv3; have HG3 := Lib.hid hg3; clear ho3 hg3 hR3 hv3)))
      go_ret
      rw [HX.out]
      have hst := (HS2.out.grown HG3.out (fun k hk => .inl (HM2.out.units.foot k hk))).setCell (p := ⟨g, 2, none⟩) (.inl H.out.foot) (.slice nA (nn - 1) nc)
      have hq := HV3.out
      have he : (us.take i ++ us.drop j).map SV.srv = s.units.eraseIdx i := by rw [HJ.out, srvs_erase, H.out.srvs]
      rw [he] at hq
      exact ⟨rfl, ⟨_, _, _, _, _, _, _, _, _, _, _, _, _, _, hq.wide (fn_wide _ _ _)⟩, hst.fn⟩
end Go.Proofs.YtibndaianhlcaaaGreatDoor
