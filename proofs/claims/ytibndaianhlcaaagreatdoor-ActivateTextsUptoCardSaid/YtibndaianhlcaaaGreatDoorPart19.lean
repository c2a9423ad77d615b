/- slices.BinarySearchFunc over a machine's files. slices.Insert of a struct: what lies in the row behind it. slices.Insert of an entry behind the others. copy of structs, whole. slices.Insert of an entry where there is no room. slices.Insert of an entry where there is room. slices.Insert of an entry, wherever it goes. -/
import Derived.Test.YtibndaianhlcaaaGreatDoorPart18
import Derived.Laws.IdiomCopy
import Derived.Lib.AppendZerosOnto
import Derived.Shelf.Spec.SlicesInsertGrow
import Derived.Shelf.Spec.SlicesInsert
namespace Go.Proofs.YtibndaianhlcaaaGreatDoor
open Go.RowKit Go.Sort Go.Shelf
set_option linter.unusedVariables false
set_option linter.unusedSimpArgs false

theorem ahead_lo {L : List Txt} {x : Txt} (hr : Rises L) {m : Nat} (hm : m < L.length) (h : L[m] < x) : m + 1 ≤ aheadN L x := by
  rcases Nat.lt_or_ge m (aheadN L x) with h1 | h1
  · exact h1
  · exfalso
    rcases Nat.eq_or_lt_of_le h1 with h2 | h2
    · subst h2; exact aheadN_ge L x hm h
    · exact aheadN_ge L x (by omega) (List.lt_trans (rises_get hr (by omega) hm h2) h)
theorem ahead_hi {L : List Txt} {x : Txt} {m : Nat} (hm : m < L.length) (h : ¬ L[m] < x) : aheadN L x ≤ m := by
  rcases Nat.lt_or_ge m (aheadN L x) with h1 | h1
  · exact absurd (aheadN_lt L x h1 hm) h
  · exact h1
set_option maxRecDepth 100000 in
set_option maxHeartbeats 1000000 in
theorem bsE_any {w : World} {B : Nat} {A : Option Addr} {n c : Nat} {es : List EV} (h : EntsAt w B A n c es) (hB : B ≤ w.heap.size) (hn : n ≤ 1000000) (hr : Rises (es.map (·.path))) (x : Txt) :
    Calls Tryz.prog 112 #[.slice A n c, .string ⟨x.toArray⟩, .func (.func 113) #[] #[]] w fun e w' => e = .returned (.tuple #[.int .i64 (aheadN (es.map (·.path)) x : Int), .bool (decide ((es.map (·.path))[aheadN (es.map (·.path)) x]? = some x))]) ∧ Below w.heap.size w w' := by
  obtain ⟨L, hL⟩ : ∃ L, L = es.map (·.path) := ⟨_, rfl⟩
  rw [← hL] at hr ⊢
  have hLn : L.length = n := by rw [hL, List.length_map, h.len]
  obtain ⟨K, hK⟩ : ∃ K, K = aheadN L x := ⟨_, rfl⟩
  have hKn : K ≤ n := by rw [hK, ← hLn]; exact aheadN_le L x
  have H := Lib.hid h
  have HL := Lib.hid hL
  have HLN := Lib.hid hLn
  have HR := Lib.hid hr
  have HK := Lib.hid hK
  rw [← hK]
  clear h hL hLn hr hK
  go_enter Tryz.func112, Tryz.ntmps112
  go_wp2_with (fail)
  go_loopw [9, 10] (fun s9 s10 wr => ∃ lo hi : Nat, s9 = .int .i64 (lo : Int) ∧ s10 = .int .i64 (hi : Int) ∧ lo ≤ K ∧ K ≤ hi ∧ hi ≤ n ∧ Aside (Below w.heap.size w wr)) (fun s9 s10 _ => (intOf s10).toNat - (intOf s9).toNat)
  case atStart => exact ⟨0, n, rfl, rfl, Nat.zero_le _, hKn, Nat.le_refl _, Below.refl _ _⟩
  case round =>
    obtain ⟨lo, hi, rfl, rfl, hlo, hhi, hin, hb⟩ := hrel
    by_cases hlt : lo < hi
    · have hmn : (lo + hi) / 2 < n := by omega
      have hml : lo ≤ (lo + hi) / 2 := by omega
      have hmh : (lo + hi) / 2 < hi := by omega
      obtain ⟨b, off, rfl, hbB, hl, c0, c1, c2, _⟩ := (H.out.below (hb.out.mono hB)).at_ hmn
      have hcmp := cmpE_any es[(lo + hi) / 2] x wr
      have hs := compare_sound es[(lo + hi) / 2].path x
      have hmL : (lo + hi) / 2 < L.length := by rw [HLN.out]; exact hmn
      have hg : L[(lo + hi) / 2] = es[(lo + hi) / 2].path := by have := HL.out; subst this; simp
      have HLo : Hid (es[(lo + hi) / 2].path < x → (lo + hi) / 2 + 1 ≤ K) := fun h9 => by rw [HK.out]; exact ahead_lo HR.out hmL (by rw [hg]; exact h9)
      have HHi : Hid (¬ es[(lo + hi) / 2].path < x → K ≤ (lo + hi) / 2) := fun h9 => by rw [HK.out]; exact ahead_hi hmL (by rw [hg]; exact h9)
      generalize es[(lo + hi) / 2] = y at *
      generalize Lib.compareBytes y.path x = r at *
      have HS := Lib.hid hs.1
      clear hg hs
      obtain ⟨yp, yk, yd, yA, yn, yc⟩ := y
      unfold evArr at hcmp
      simp only at c0 c1 c2 hcmp
      by_cases hr0 : r < 0
      · have HN := Lib.hid (HLo.out (HS.out.1 hr0))
        go_wp2_with (go_at_call 113; refine hcmp.mono ?_; clear hcmp; rintro e2 w2 ⟨rfl, hb2⟩)
        exact ⟨⟨(lo + hi) / 2 + 1, hi, by rw [show ((lo : Int) + (hi : Int)) / 2 + 1 = (((lo + hi) / 2 + 1 : Nat) : Int) by omega], rfl, HN.out, hhi, hin, hb.out.trans (hb2.mono hb.out.size)⟩, by clear HN; simp [intOf]; omega⟩
      · have HN := Lib.hid (HHi.out (fun h9 => hr0 (HS.out.2 h9)))
        go_wp2_with (go_at_call 113; refine hcmp.mono ?_; clear hcmp; rintro e2 w2 ⟨rfl, hb2⟩)
        exact ⟨⟨lo, (lo + hi) / 2, rfl, by rw [show ((lo : Int) + (hi : Int)) / 2 = (((lo + hi) / 2 : Nat) : Int) by omega], hlo, HN.out, by omega, hb.out.trans (hb2.mono hb.out.size)⟩, by clear HN; simp [intOf]; omega⟩
    · obtain rfl : lo = K := by omega
      by_cases hKn' : lo < n
      · obtain ⟨b, off, rfl, hbB, hl, c0, c1, c2, _⟩ := (H.out.below (hb.out.mono hB)).at_ hKn'
        have hcmp := cmpE_any es[lo] x wr
        have hs := compare_sound es[lo].path x
        have hKL : lo < L.length := by rw [HLN.out]; exact hKn'
        have hg : L[lo]? = some es[lo].path := by have := HL.out; subst this; simp [hl]
        have HD := Lib.hid (show decide (L[lo]? = some x) = decide (Lib.compareBytes es[lo].path x = 0) from decide_eq_decide.2 ⟨fun h9 => hs.2.2 (Option.some.inj (hg.symm.trans h9)), fun h9 => by rw [hg, hs.2.1 h9]⟩)
        generalize es[lo] = y at *
        generalize Lib.compareBytes y.path x = r at *
        obtain ⟨yp, yk, yd, yA, yn, yc⟩ := y
        unfold evArr at hcmp
        simp only at c0 c1 c2 hcmp
        clear hs hg
        by_cases hr0 : r = 0
        · have HE := Lib.hid (HD.out.trans (decide_eq_true hr0))
          subst hr0
          go_wp2_with (go_at_call 113; refine hcmp.mono ?_; clear hcmp; rintro e2 w2 ⟨rfl, hb2⟩)
          go_ret2
          exact ⟨by rw [HE.out]; rfl, hb.out.trans (hb2.mono hb.out.size)⟩
        · have HE := Lib.hid (HD.out.trans (decide_eq_false hr0))
          have hr1 : (r == 0) = false := by rw [beq_eq_false_iff_ne]; exact hr0
          go_wp2_with (go_at_call 113; refine hcmp.mono ?_; clear hcmp; rintro e2 w2 ⟨rfl, hb2⟩)
          go_ret2
          exact ⟨by rw [HE.out]; rfl, hb.out.trans (hb2.mono hb.out.size)⟩
      · have HE := Lib.hid (show decide (L[lo]? = some x) = false from decide_eq_false (fun h9 => by have := (List.getElem?_eq_some_iff.1 h9).1; have := HLN.out; omega))
        go_wp2_with (fail)
        go_ret2
        exact ⟨by rw [HE.out]; rfl, hb.out⟩
end Go.Proofs.YtibndaianhlcaaaGreatDoor
namespace Go.Proofs.YtibndaianhlcaaaGreatDoor
open Go.RowKit Go.Sort Go.Shelf
set_option linter.unusedVariables false
set_option linter.unusedSimpArgs false

theorem three_parts {pre mid post L : List Value} {a s r : Nat} (ha : pre.length = a) (hs : mid.length = s) (hr : post.length = r) (h1 : ∀ j, j < a → L[j]? = pre[j]?) (h2 : ∀ j, j < s → L[a + j]? = mid[j]?) (h3 : ∀ j, j < r → L[a + s + j]? = post[j]?) :
    L.take (a + s + r) = pre ++ mid ++ post := by
  apply List.ext_getElem?
  intro j
  rw [List.getElem?_take]
  by_cases c1 : j < a
  · rw [if_pos (by omega), h1 j c1, List.append_assoc, List.getElem?_append_left (by omega)]
  · by_cases c2 : j < a + s
    · have := h2 (j - a) (by omega)
      rw [show a + (j - a) = j by omega] at this
      rw [if_pos (by omega), this, List.append_assoc, List.getElem?_append_right (by omega), List.getElem?_append_left (by omega), ha]
    · by_cases c3 : j < a + s + r
      · have := h3 (j - (a + s)) (by omega)
        rw [show a + s + (j - (a + s)) = j by omega] at this
        rw [if_pos c3, this, List.getElem?_append_right (by rw [List.length_append]; omega), List.length_append, ha, hs]
      · rw [if_neg c3, List.getElem?_eq_none (by simp only [List.length_append]; omega)]
theorem sets_two1 {cur : Array Value} {pre mid post : List Value} {a s r : Nat} (ha : pre.length = a) (hs : mid.length = s) (hr : post.length = r) (hc : a + s + r ≤ cur.size) (ht : ∀ j, j < a → cur.toList[j]? = pre[j]?) :
    (sets (sets cur (a + s) post) a mid).toList.take (a + s + r) = pre ++ mid ++ post := by
  have e1 : a + s + post.length ≤ cur.size := by omega
  have e2 : a + mid.length ≤ (sets cur (a + s) post).size := by rw [sets_size]; omega
  refine three_parts ha hs hr (fun j hj => ?_) (fun j hj => ?_) (fun j hj => ?_)
  · rw [sets_get e2, if_pos hj, sets_get e1, if_pos (by omega)]; exact ht j hj
  · rw [sets_get e2, if_neg (by omega), if_pos (by omega)]; congr 1; omega
  · rw [sets_get e2, if_neg (by omega), if_neg (by omega), sets_get e1, if_neg (by omega), if_pos (by omega)]; congr 1; omega
theorem sets_two2 {cur : Array Value} {pre mid post : List Value} {a s r : Nat} (ha : pre.length = a) (hs : mid.length = s) (hr : post.length = r) (hc : a + s + r ≤ cur.size) (ht : ∀ j, j < a → cur.toList[j]? = pre[j]?) :
    (sets (sets cur a mid) (a + s) post).toList.take (a + s + r) = pre ++ mid ++ post := by
  have e1 : a + mid.length ≤ cur.size := by omega
  have e2 : a + s + post.length ≤ (sets cur a mid).size := by rw [sets_size]; omega
  refine three_parts ha hs hr (fun j hj => ?_) (fun j hj => ?_) (fun j hj => ?_)
  · rw [sets_get e2, if_pos (by omega), sets_get e1, if_pos hj]; exact ht j hj
  · rw [sets_get e2, if_pos (by omega), sets_get e1, if_neg (by omega), if_pos (by omega)]; congr 1; omega
  · rw [sets_get e2, if_neg (by omega), if_pos (by omega)]; congr 1; omega
theorem ins_flat {α : Type} (cells : α → List Value) (l : List α) (i : Nat) (x : α) : (insA l i x).flatMap cells = (l.take i).flatMap cells ++ cells x ++ (l.drop i).flatMap cells := by
  unfold insA
  rw [List.flatMap_append, List.flatMap_cons, List.append_assoc]
end Go.Proofs.YtibndaianhlcaaaGreatDoor
namespace Go.Proofs.YtibndaianhlcaaaGreatDoor
open Go.RowKit Go.Sort Go.Shelf
set_option linter.unusedVariables false
set_option linter.unusedSimpArgs false

def InsPostE (w : World) (F : Nat → Prop) (A : Option Addr) (n c : Nat) (l : List EV) (i : Nat) (x : EV) : Ending → World → Prop := fun e w' => ∃ A' c', e = .returned (.slice A' (n + 1) c') ∧ Row w' (Fn F w w') 35 3 (.slice A' (n + 1) c') (n + 1) ((insA l i x).flatMap evCells) ∧ w.grownBy w' (Value.slice A n c).ownBlock
set_option maxRecDepth 100000 in
set_option maxHeartbeats 1000000 in
theorem insE_end {w : World} {F : Nat → Prop} {A : Option Addr} {n c : Nat} {l : List EV} (h : Row w F 35 3 (.slice A n c) n (l.flatMap evCells)) (hn : n ≤ 1000000) (x : EV) {vb : Nat} (hv : Blk w vb 35 (evArr x)) :
    Calls Tryz.prog 115 #[.slice A n c, .int .i64 (n : Int), .slice (some ⟨vb, 0, none⟩) 1 1] w (InsPostE w F A n c l n x) := by
  have hl : l.length = n := by have h1 := h.own.1; rw [flatMap_len evCells 3 l (fun o _ => evCells_length o)] at h1; omega
  obtain ⟨i, hi, hz0, hz1, hz2⟩ := info_parts ent_info
  have hS : Slc w (vb + 1) 3 (some ⟨vb, 0, none⟩) 1 1 (evCells x) := hv.slc (sz := 3) (n := 1) (c := 1) (Nat.le_refl _) (Nat.le_refl _) (by decide)
  obtain ⟨A', c', w', r1, r2, r3, r4⟩ := append_slc (P := Tryz.prog) w 0 22 22 35 i _ 3 48 Tryz.underlying22 hi hz0 hz1 hz2 rfl (by decide) _ n (l.flatMap evCells) h.own _ _ 1 1 (evCells x) hS (fun v hv => evCells_one [x] v (by simpa using hv)) (by unfold maxLen; omega) (by omega) (Nat.zero_le _)
  have HP : Hid (InsPostE w F A n c l n x (.returned (.slice A' (n + 1) c')) w') := by
    refine ⟨A', c', rfl, ⟨?_, fun k hk => ?_⟩, r3⟩
    · rw [ins_flat, List.take_of_length_le (by omega), List.drop_eq_nil_of_le (by omega)]
      simpa using r2
    · rcases r4 with r4 | r4
      · rw [r4] at hk
        exact .inl (h.foot k hk)
      · have hl := (r2.lt k hk).2
        rw [r4] at hk
        injection hk with hk
        exact .inr ⟨by omega, hl⟩
  have HR := Lib.hid r1
  clear r1 r2 r3 r4 hS hv hl
  have hnn : ((n : Int) == (n : Int)) = true := by simp
  rcases h.own.2 with ⟨e, h0⟩ | ⟨g, cap, cur, e, hb0, hb, hb1, hb2, hb3, hb4⟩
  · injection e with e1 _ e3
    subst e1 e3 h0
    clear h
    go_enter Tryz.func115, Tryz.ntmps115
    go_wp2_with (at_builtin; refine wpList_append_run rfl _ _ _ rfl rfl rfl HR.out ?_; clear HR)
    go_ret
    exact HP.out
  · injection e with e1 _ e3
    subst e1 e3
    have hc63 : c ≤ 9223372036854775807 := by unfold maxLen at hb2; omega
    clear h hb hb3 hb4 hb0
    by_cases hnc : n = c
    · subst hnc
      go_enter Tryz.func115, Tryz.ntmps115
      go_wp2_with (at_builtin; refine wpList_append_run rfl _ _ _ rfl rfl rfl HR.out ?_; clear HR)
      go_ret
      exact HP.out
    · have hcn : ¬ c = n := fun e => hnc e.symm
      go_enter Tryz.func115, Tryz.ntmps115
      go_wp2_with (at_builtin; refine wpList_append_run rfl _ _ _ rfl rfl rfl HR.out ?_; clear HR)
      go_ret
      exact HP.out
end Go.Proofs.YtibndaianhlcaaaGreatDoor
namespace Go.Proofs.YtibndaianhlcaaaGreatDoor
open Go.RowKit Go.Sort Go.Shelf
set_option linter.unusedVariables false
set_option linter.unusedSimpArgs false

/-- copy of k elements of size sz, into cells that may be written. -/
theorem run_copy_sized (w : World) (dT sT ty elem : TypeId) (sz k : Nat) (b o dLen dCap : Nat) (a : Addr) (sLen sCap : Nat) (cs : List Value) (hu : Tryz.prog.underlying dT = some (.slice elem)) (hs : (Tryz.prog.info? elem).map (·.size) = some sz) (hk : Nat.min sLen dLen = k) (hn : cs.length = k * sz)
    (hsrc : ∀ j v, cs[j]? = some v → w.cell? (a.add j) = some v) (hc : ∀ j, j < cs.length → (w.cell? ⟨b, o + j, none⟩).isSome = true) (hf : ∀ j, j < cs.length → w.frozen? ⟨b, o + j, none⟩ = false) (h1 : ∀ v ∈ cs, v.oneCell' = true) :
    (Builtin.copy_ #[dT, sT] ty #[.slice (some ⟨b, o, none⟩) dLen dCap, .slice (some a) sLen sCap]).run Tryz.prog w = .ok (goInt k) (w.setCells b o cs) := by
  have hl := run_loadCells_list (P := Tryz.prog) w a cs hsrc
  have hst := run_storeCells_cells (P := Tryz.prog) b o cs 0 w (by simpa using hc) (by simpa using hf) h1
  cases hq : Tryz.prog.info? elem with
  | none => simp [hq] at hs
  | some i =>
    have hi : i.size = sz := by simpa [hq] using hs
    simp [Builtin.copy_, run_underlying hu, Builtin.lenOf, Builtin.firstCells, Go.sizeOf, typeInfo, hq, hi, hk, ← hn, hl, hst]
end Go.Proofs.YtibndaianhlcaaaGreatDoor
namespace Go.Proofs.YtibndaianhlcaaaGreatDoor
open Go.RowKit Go.Sort Go.Shelf
set_option linter.unusedVariables false
set_option linter.unusedSimpArgs false

set_option maxRecDepth 100000 in
set_option maxHeartbeats 2000000 in
theorem insE_grow {w : World} {b n c i : Nat} {cs : List Value} (hi : i < n) (hn : n ≤ 1000000) (hnc : n ≤ c) (hroom : c < n + 1) (hcl : cs.length = n * 3) (h1c : ∀ v ∈ cs, v.oneCell' = true) (hcs : ∀ j v, cs[j]? = some v → w.cell? ⟨b, 0 + j, none⟩ = some v) (x : EV) {vb : Nat} (hv : Blk w vb 35 (evArr x)) :
    ∃ ROW : Array Value, ROW.size = grownCap w (n + 1) c 35 * 3 ∧ ROW.toList.take (i * 3) = cs.take (i * 3) ∧
    Calls Tryz.prog 115 #[.slice (some ⟨b, 0, none⟩) n c, .int .i64 (i : Int), .slice (some ⟨vb, 0, none⟩) 1 1] w fun e w' => e = .returned (.slice (some ⟨w.heap.size, 0, none⟩) (n + 1) (grownCap w (n + 1) c 35)) ∧
      w' = (((w.alloc (.cells ROW 35)).drew.setCells w.heap.size (i * 3) (evCells x)).drew).setCells w.heap.size ((i + 1) * 3) (cs.drop (i * 3)) := by
  obtain ⟨i0, hi0, hz0, hzs, hzb⟩ := info_parts ent_info
  have hz1 : ¬ ((1 : Int) = 0) := by decide
  have hz2 : ¬ ((i : Int) = (n : Int)) := by omega
  have hz3 : (c : Int) < (n : Int) + 1 := by omega
  have hsz : (Tryz.prog.info? 35).map (·.size) = some 3 := by rw [hi0]; simp [hzs]
  have hbw : b < w.heap.size := World.block_lt_of_cell? _ _ (hcs 0 _ (List.getElem?_eq_getElem (by omega)))
  have hvw : vb < w.heap.size := hv.lt
  have hkk : (n : Int) + 1 - (i : Int) = ((n + 1 - i : Nat) : Int) := by omega
  have hik : i + (n + 1 - i) = n + 1 := by omega
  have hold : (Builtin.firstCells i0.size i (.slice (some ⟨b, 0, none⟩) i c)).run Tryz.prog w.drew = .ok (cs.take (i * 3)).toArray w.drew := by
    rw [hzs]
    exact run_firstCells_some w.drew 3 i ⟨b, 0, none⟩ i c (cs.take (i * 3)) (by rw [List.length_take]; omega) (fun j v hj => by
      rw [addr_of_add]
      rw [List.getElem?_take] at hj
      split at hj
      · exact hcs j v hj
      · cases hj)
  obtain ⟨G, hG⟩ : ∃ G, G = grownCap w (n + 1) c 35 := ⟨_, rfl⟩
  have hGn : n + 1 ≤ G := by rw [hG]; exact grownCap_ge w _ _ _
  have hGm : G ≤ maxLen := by rw [hG]; exact grownCap_le_maxLen w (n + 1) c _ (by unfold maxLen; omega)
  obtain ⟨z, hz⟩ : ∃ z : Array Value, z = (Value.agg #[.string .empty, .int .i64 0, .slice none 0 0]).cells := ⟨_, rfl⟩
  have hz3' : z.size = 3 := by rw [hz]; rfl
  obtain ⟨ROW, hROW⟩ : ∃ ROW : Array Value, ROW = (cs.take (i * 3)).toArray ++ Builtin.zeroCells z (n + 1 - i) ++ Builtin.zeroCells z (G - (n + 1)) := ⟨_, rfl⟩
  have hrz : ∀ ty, (Builtin.append_ #[22, 3] ty #[.slice (some ⟨b, 0, none⟩) i c, .int .i64 ((n : Int) + 1 - (i : Int))]).run Tryz.prog w = .ok (.slice (some ⟨w.heap.size, 0, none⟩) (n + 1) G) (w.drew.alloc (.cells ROW 35)) := fun ty => by
    have h := Lib.run_append_grow_zeros w 22 3 ty 35 i0 _ .i64 .i64 Tryz.underlying22 Tryz.underlying3 hi0 hz0 (some ⟨b, 0, none⟩) i c (cs.take (i * 3)) hold (n + 1 - i) (by omega) (by omega) (by omega) (by omega) (by rw [hzb]; omega) (by rw [hzb, hik]; exact growslice_fits hroom (by omega))
    rw [hik, ← hG] at h
    rw [hkk, hROW, hz]
    exact h
  have hRs : ROW.size = G * 3 := by rw [hROW]; simp only [Array.size_append, List.size_toArray, size_zeroCells, hz3', List.length_take, hcl]; omega
  refine ⟨ROW, by rw [← hG]; exact hRs, by rw [hROW, Array.toList_append, Array.toList_append, List.append_assoc, List.take_append_of_le_length (by simp only [List.length_take, hcl]; omega)]; simp [List.take_take], ?_⟩
  rw [← hG]
  have hBR : Blk (w.alloc (.cells ROW 35)).drew w.heap.size 35 ROW := (Blk.new w _ _).drew
  have hvR : Blk (w.alloc (.cells ROW 35)).drew vb 35 (evArr x) := (hv.alloc _).drew
  have hcpA : ∀ ty dc, (Builtin.copy_ #[22, 22] ty #[.slice (some ⟨w.heap.size, i * 3, none⟩) (n + 1 - i) dc, .slice (some ⟨vb, 0, none⟩) 1 1]).run Tryz.prog (w.alloc (.cells ROW 35)).drew = .ok (goInt 1) ((w.alloc (.cells ROW 35)).drew.setCells w.heap.size (i * 3) (evCells x)) := fun ty dc =>
    run_copy_sized _ _ _ ty 35 3 1 w.heap.size (i * 3) (n + 1 - i) dc ⟨vb, 0, none⟩ 1 1 (evCells x) Tryz.underlying22 hsz (by simp only [Nat.min_def]; split <;> omega) rfl
      (fun j v hj => by rw [addr_of_add, Nat.zero_add, hvR.cell]; simpa [evArr, evCells] using hj)
      (fun j hj => by rw [evCells_length] at hj; rw [hBR.cell, Array.getElem?_eq_getElem (by omega)]; rfl) (fun j _ => hBR.frozen _) (fun v hv => evCells_one [x] v (by simpa using hv))
  have hBR2 := Blk.setCells (evCells x) (i * 3) hBR
  have hdl : (cs.drop (i * 3)).length = (n - i) * 3 := by rw [List.length_drop, hcl]; omega
  have hcpB : ∀ ty dc sc, (Builtin.copy_ #[22, 22] ty #[.slice (some ⟨w.heap.size, (i + 1) * 3, none⟩) (n + 1 - (i + 1)) dc, .slice (some ⟨b, i * 3, none⟩) (n - i) sc]).run Tryz.prog ((w.alloc (.cells ROW 35)).drew.setCells w.heap.size (i * 3) (evCells x)).drew = .ok (goInt ((n - i : Nat) : Int)) (((w.alloc (.cells ROW 35)).drew.setCells w.heap.size (i * 3) (evCells x)).drew.setCells w.heap.size ((i + 1) * 3) (cs.drop (i * 3))) := fun ty dc sc =>
    run_copy_sized _ _ _ ty 35 3 (n - i) w.heap.size ((i + 1) * 3) (n + 1 - (i + 1)) dc ⟨b, i * 3, none⟩ (n - i) sc (cs.drop (i * 3)) Tryz.underlying22 hsz (by simp only [Nat.min_def]; split <;> omega) hdl
      (fun j v hj => by
        rw [addr_of_add]
        have h9 := hcs (i * 3 + j) v (by rwa [List.getElem?_drop] at hj)
        rw [Nat.zero_add] at h9
        have hbl := (below_setCells (B := w.heap.size) (a := w) (g := w.heap.size) (Nat.le_refl _) (evCells x) (i * 3) (((Below.refl w.heap.size w).alloc (Nat.le_refl _) (.cells ROW 35)).drew)).drew
        rw [hbl.cell (p := ⟨b, i * 3 + j, none⟩) hbw]
        exact h9)
      (fun j hj => by rw [hdl] at hj; rw [hBR2.drew.cell, Array.getElem?_eq_getElem (by rw [sets_size]; omega)]; rfl) (fun j _ => hBR2.drew.frozen _) (fun v hv => h1c v (List.mem_of_mem_drop hv))
  have mixed : Tryz.prog.follows .mixedOrders = true := by kernel_rfl
  have hGi : ¬ (G = i) := by omega
  have hGim : ¬ (G = i + 1) := by omega
  have hci : ¬ (c = i) := by omega
  have hin : i ≤ n := by omega
  have hw1 : IntKind.i64.wrap ((i : Int) + 1) = (i : Int) + 1 := IntWalk.i64_in _ (by omega)
  have hb1 : (0 : Int) ≤ (i : Int) + 1 := by omega
  have htn : ((i : Int) + 1).toNat = i + 1 := by omega
  have hb3 : (i : Int) ≤ (n : Int) := by omega
  have hGm' : G ≤ 9223372036854775807 := by unfold maxLen at hGm; omega
  clear hold hROW hG hkk hik hBR hvR hBR2 hRs hz hz3' hv hcs h1c
  go_enter Tryz.func115, Tryz.ntmps115
  go_wp2_with (first
    | (at_builtin; refine Lib.wpList_append_run _ rfl _ _ _ _ rfl _ _ rfl rfl _ _ (hrz _) ?_)
    | (at_builtin; refine wpList_copy_runI _ rfl _ _ 22 22 rfl _ _ rfl rfl (hcpA _ _) ?_))
  go_region_law_o (refine step_copy_runI rfl _ _ 22 22 rfl (.slice (some ⟨w.heap.size, (i + 1) * 3, none⟩) (n + 1 - (i + 1)) (G - (i + 1))) (.slice (some ⟨b, i * 3, none⟩) (n - i) (c - i)) (by simp [Act.eval, Act.put]) (by simp [Act.eval, Act.put]) (hcpB 3 (G - (i + 1)) (c - i)) ?_)
  go_wp2
  go_ret
  exact ⟨rfl, rfl⟩
end Go.Proofs.YtibndaianhlcaaaGreatDoor
namespace Go.Proofs.YtibndaianhlcaaaGreatDoor
open Go.RowKit Go.Sort Go.Shelf
set_option linter.unusedVariables false
set_option linter.unusedSimpArgs false

set_option maxRecDepth 100000 in
set_option maxHeartbeats 2000000 in
theorem insE_shift {w : World} {b n c i : Nat} {cs : List Value} {cur : Array Value} (hi : i < n) (hn : n ≤ 1000000) (hroom : n + 1 ≤ c) (hc63 : c ≤ 9223372036854775807) (hB : Blk w b 35 cur) (hcs3 : cur.size = c * 3) (hcl : cs.length = n * 3) (h1c : ∀ v ∈ cs, v.oneCell' = true) (hcs : ∀ j v, cs[j]? = some v → w.cell? ⟨b, 0 + j, none⟩ = some v) (x : EV) {vb : Nat} (hv : Blk w vb 35 (evArr x)) (hvb : vb ≠ b) :
    Calls Tryz.prog 115 #[.slice (some ⟨b, 0, none⟩) n c, .int .i64 (i : Int), .slice (some ⟨vb, 0, none⟩) 1 1] w fun e w' => e = .returned (.slice (some ⟨b, 0, none⟩) (n + 1) c) ∧
      w' = (w.drew.setCells b ((i + 1) * 3) (cs.drop (i * 3))).setCells b (i * 3) (evCells x) := by
  obtain ⟨i0, hi0, hz0, hzs, hzb⟩ := info_parts ent_info
  have hz1 : ¬ ((1 : Int) = 0) := by decide
  have hz2 : ¬ ((i : Int) = (n : Int)) := by omega
  have hsz : (Tryz.prog.info? 35).map (·.size) = some 3 := by rw [hi0]; simp [hzs]
  have hsa : w.shape? vb = some (35, 3) := by unfold World.shape?; rw [show w.heap[vb]? = _ from hv]; rfl
  have hsb : w.shape? b = some (35, cur.size) := by unfold World.shape?; rw [show w.heap[b]? = _ from hB]
  have hov : ∀ lb cb, (callFunc 135 #[.slice (some ⟨vb, 0, none⟩) 1 1, .slice (some ⟨b, (i + 1) * 3, none⟩) lb cb]).run Tryz.prog w = .ok (.value (.bool false)) w := fun lb cb => by
    rw [run_callFunc_extern Tryz.func135 (by kernel_rfl) (by kernel_rfl) (by kernel_rfl) (e := Extern.SlicesOverlaps.overlaps #[22, 22] #[4]) (by kernel_rfl),
      Lib.run_overlaps_apart w 22 4 35 Tryz.underlying22 3 Tryz.sizeOf35 ⟨vb, 0, none⟩ ⟨b, (i + 1) * 3, none⟩ 1 1 lb cb hvb 35 35 3 cur.size hsa hsb (by omega) (hv.frozen _) (hv.frozen _)]
    rfl
  have hdl : (cs.drop (i * 3)).length = (n - i) * 3 := by rw [List.length_drop, hcl]; omega
  have mixed : Tryz.prog.follows .mixedOrders = true := by kernel_rfl
  have hcp1 : ∀ ty dc sc, (Builtin.copy_ #[22, 22] ty #[.slice (some ⟨b, (i + 1) * 3, none⟩) (n + 1 - (i + 1)) dc, .slice (some ⟨b, i * 3, none⟩) (n + 1 - i) sc]).run Tryz.prog w.drew = .ok (goInt ((n - i : Nat) : Int)) (w.drew.setCells b ((i + 1) * 3) (cs.drop (i * 3))) := fun ty dc sc =>
    run_copy_sized _ _ _ ty 35 3 (n - i) b ((i + 1) * 3) (n + 1 - (i + 1)) dc ⟨b, i * 3, none⟩ (n + 1 - i) sc (cs.drop (i * 3)) Tryz.underlying22 hsz (by simp only [Nat.min_def]; split <;> omega) hdl
      (fun j v hj => by
        rw [addr_of_add]
        have h9 := hcs (i * 3 + j) v (by rwa [List.getElem?_drop] at hj)
        rw [Nat.zero_add] at h9
        exact h9)
      (fun j hj => by rw [hdl] at hj; rw [hB.drew.cell, Array.getElem?_eq_getElem (by omega)]; rfl) (fun j _ => hB.drew.frozen _) (fun v hv => h1c v (List.mem_of_mem_drop hv))
  obtain ⟨W1, hW1⟩ : ∃ W1, W1 = w.drew.setCells b ((i + 1) * 3) (cs.drop (i * 3)) := ⟨_, rfl⟩
  have hB1 : Blk W1 b 35 (sets cur ((i + 1) * 3) (cs.drop (i * 3))) := by rw [hW1]; exact Blk.setCells _ _ hB.drew
  have hv1 : Blk W1 vb 35 (evArr x) := by
    have hg := grownBy_setCells (g := b) (cs.drop (i * 3)) ((i + 1) * 3) (a := w.drew) (World.grownBy.refl _ _)
    rw [← hW1] at hg
    exact (hg.block vb hv.lt (fun e => by injection e with e; exact hvb e)).trans hv
  have hcp2 : ∀ ty dc, (Builtin.copy_ #[22, 22] ty #[.slice (some ⟨b, i * 3, none⟩) (n + 1 - i) dc, .slice (some ⟨vb, 0, none⟩) 1 1]).run Tryz.prog W1 = .ok (goInt 1) (W1.setCells b (i * 3) (evCells x)) := fun ty dc =>
    run_copy_sized _ _ _ ty 35 3 1 b (i * 3) (n + 1 - i) dc ⟨vb, 0, none⟩ 1 1 (evCells x) Tryz.underlying22 hsz (by simp only [Nat.min_def]; split <;> omega) rfl
      (fun j v hj => by rw [addr_of_add, Nat.zero_add, hv1.cell]; simpa [evArr, evCells] using hj)
      (fun j hj => by rw [evCells_length] at hj; rw [hB1.cell, Array.getElem?_eq_getElem (by rw [sets_size]; omega)]; rfl) (fun j _ => hB1.frozen _) (fun v hv => evCells_one [x] v (by simpa using hv))
  have hcp3 : ∀ ty dc, (Builtin.copy_ #[22, 22] ty #[.slice (some ⟨b, i * 3, none⟩) (n + 1 - i) dc, .slice (some ⟨vb, 0, none⟩) 1 1]).run Tryz.prog W1.drew = .ok (goInt 1) (W1.drew.setCells b (i * 3) (evCells x)) := fun ty dc =>
    run_copy_sized _ _ _ ty 35 3 1 b (i * 3) (n + 1 - i) dc ⟨vb, 0, none⟩ 1 1 (evCells x) Tryz.underlying22 hsz (by simp only [Nat.min_def]; split <;> omega) rfl
      (fun j v hj => by rw [addr_of_add, Nat.zero_add, hv1.drew.cell]; simpa [evArr, evCells] using hj)
      (fun j hj => by rw [evCells_length] at hj; rw [hB1.drew.cell, Array.getElem?_eq_getElem (by rw [sets_size]; omega)]; rfl) (fun j _ => hB1.drew.frozen _) (fun v hv => evCells_one [x] v (by simpa using hv))
  rw [← hW1] at hcp1
  have hw1 : IntKind.i64.wrap ((i : Int) + 1) = (i : Int) + 1 := IntWalk.i64_in _ (by omega)
  have hb1 : (0 : Int) ≤ (i : Int) + 1 := by omega
  have hin : i ≤ n := by omega
  have htn : ((i : Int) + 1).toNat = i + 1 := by omega
  have hb2 : ¬ (c = i + 1) := by omega
  have hb3 : (i : Int) ≤ (n : Int) + 1 := by omega
  have hb4 : ¬ (c = i) := by omega
  have hb5 : ¬ ((c : Int) < (n : Int) + 1) := by omega
  have HCP2 := Lib.hid hcp2
  have HCP3 := Lib.hid hcp3
  have HWW := Lib.hid hW1
  clear hB hv hB1 hv1 hcs h1c hsa hsb hcp2 hcp3 hW1
  go_enter Tryz.func115, Tryz.ntmps115
  go_wp2_with (simp only [hov])
  go_region_law_o (refine step_copy_runI rfl _ _ 22 22 rfl (.slice (some ⟨b, (i + 1) * 3, none⟩) (n + 1 - (i + 1)) (c - (i + 1))) (.slice (some ⟨b, i * 3, none⟩) (n + 1 - i) (c - i)) (by simp [Act.eval, Act.put]) (by simp [Act.eval, Act.put]) (hcp1 3 (c - (i + 1)) (c - i)) ?_)
  go_wp2_with (fail)
  rw [HCP2.out]
  go_wp2
  go_ret
  first | exact ⟨rfl, rfl⟩ | exact ⟨rfl, by rw [HWW.out]⟩
end Go.Proofs.YtibndaianhlcaaaGreatDoor
namespace Go.Proofs.YtibndaianhlcaaaGreatDoor
open Go.RowKit Go.Sort Go.Shelf
set_option linter.unusedVariables false
set_option linter.unusedSimpArgs false

set_option maxHeartbeats 1000000 in
theorem insE_any {w : World} {F : Nat → Prop} {A : Option Addr} {n c : Nat} {l : List EV} (h : Row w F 35 3 (.slice A n c) n (l.flatMap evCells)) {i : Nat} (hi : i ≤ n) (hn : n ≤ 1000000) (x : EV) {vb : Nat} (hv : Blk w vb 35 (evArr x)) (hvF : ¬ F vb) :
    Calls Tryz.prog 115 #[.slice A n c, .int .i64 (i : Int), .slice (some ⟨vb, 0, none⟩) 1 1] w (InsPostE w F A n c l i x) := by
  have hl : l.length = n := by have h1 := h.own.1; rw [flatMap_len evCells 3 l (fun o _ => evCells_length o)] at h1; omega
  have hcl : (l.flatMap evCells).length = n * 3 := by rw [flatMap_len evCells 3 l (fun o _ => evCells_length o), hl]
  have h1c : ∀ v ∈ l.flatMap evCells, v.oneCell' = true := evCells_one l
  rcases Nat.eq_or_lt_of_le hi with hin | hin
  · subst hin
    exact insE_end h hn x hv
  rcases h.own.2 with ⟨e, h0⟩ | ⟨g, cap, cur, e, hb0, hb, hb1, hb2, hb3, hb4⟩
  · omega
  injection e with e1 _ e3
  subst e1 e3
  have hB : Blk w g 35 cur := hb
  have hFg : F g := h.foot g rfl
  have hcs : ∀ j v, (l.flatMap evCells)[j]? = some v → w.cell? ⟨g, 0 + j, none⟩ = some v := fun j v hj => by
    rw [hB.cell, Nat.zero_add, ← Array.getElem?_toList]
    rw [← hb4, List.getElem?_take] at hj
    split at hj
    · exact hj
    · cases hj
  have hfm := flatMap_take evCells 3 l i (fun o _ => evCells_length o)
  have hpre : ((l.take i).flatMap evCells).length = i * 3 := by rw [flatMap_len evCells 3 _ (fun o _ => evCells_length o), List.length_take, Nat.min_eq_left (by omega)]
  have hpost : ((l.drop i).flatMap evCells).length = (n - i) * 3 := by rw [flatMap_len evCells 3 _ (fun o _ => evCells_length o), List.length_drop, hl]
  have hsum : (n + 1) * 3 = i * 3 + 3 + (n - i) * 3 := by omega
  have hlen : ((insA l i x).flatMap evCells).length = (n + 1) * 3 := by rw [flatMap_len evCells 3 _ (fun o _ => evCells_length o), ins_length, hl]
  rcases Nat.lt_or_ge c (n + 1) with hroom | hroom
  · obtain ⟨ROW, hRs, hRt, hcall⟩ := insE_grow hin hn hb1 hroom hcl h1c hcs x hv
    have hGn := grownCap_ge w (n + 1) c 35
    have hGm : grownCap w (n + 1) c 35 ≤ maxLen := grownCap_le_maxLen w (n + 1) c _ (by unfold maxLen; omega)
    generalize grownCap w (n + 1) c 35 = G at *
    refine hcall.mono ?_
    rintro e w' ⟨rfl, hw⟩
    have hB1 : Blk w' w.heap.size 35 (sets (sets ROW (i * 3) (evCells x)) ((i + 1) * 3) ((l.flatMap evCells).drop (i * 3))) := by
      rw [hw]
      exact Blk.setCells _ _ ((Blk.setCells _ _ ((Blk.new w _ _).drew)).drew)
    have hgb : (w.alloc (.cells ROW 35)).grownBy w' (some w.heap.size) := by
      rw [hw]
      have g1 := grownBy_setCells (g := w.heap.size) (a := w.alloc (.cells ROW 35)) (evCells x) (i * 3) (w := (w.alloc (.cells ROW 35)).drew) ⟨rfl, rfl, rfl, Nat.le_refl _, fun _ _ _ => rfl⟩
      exact grownBy_setCells _ _ ⟨g1.os, g1.tape, g1.output, g1.size, g1.block⟩
    have hsz := hgb.size
    rw [World.size_alloc] at hsz
    refine ⟨_, _, rfl, ⟨⟨hlen, .inr ⟨w.heap.size, G, _, rfl, Nat.zero_le _, hB1, hGn, hGm, by rw [sets_size, sets_size, hRs], ?_⟩⟩, fun k hk => ?_⟩, ⟨hgb.os, hgb.tape, hgb.output, by omega, fun k hk _ => by rw [hgb.block k (by simp; omega) (by intro e9; injection e9 with e9; omega), Below.heap_alloc w _ k hk]⟩⟩
    · rw [hsum, hfm.2, show (i + 1) * 3 = i * 3 + 3 by omega, ins_flat]
      exact sets_two2 hpre rfl hpost (by rw [hRs]; omega) (fun j hj => by rw [← hfm.1, ← hRt, List.getElem?_take, if_pos hj])
    · injection hk with hk
      subst hk
      exact .inr ⟨Nat.le_refl _, (by show w.heap.size < w'.heap.size; omega)⟩
  · have hvb : vb ≠ g := by rintro rfl; exact hvF hFg
    refine (insE_shift hin hn hroom (by unfold maxLen at hb2; omega) hB hb3 hcl h1c hcs x hv hvb).mono ?_
    rintro e w' ⟨rfl, hw⟩
    have hB1 : Blk w' g 35 (sets (sets cur ((i + 1) * 3) ((l.flatMap evCells).drop (i * 3))) (i * 3) (evCells x)) := by
      rw [hw]
      exact Blk.setCells _ _ (Blk.setCells _ _ hB.drew)
    have hgb : w.grownBy w' (some g) := by
      rw [hw]
      exact grownBy_setCells _ _ (grownBy_setCells _ _ ⟨rfl, rfl, rfl, Nat.le_refl _, fun _ _ _ => rfl⟩)
    refine ⟨_, _, rfl, ⟨⟨hlen, .inr ⟨g, c, _, rfl, Nat.zero_le _, hB1, hroom, hb2, by rw [sets_size, sets_size, hb3], ?_⟩⟩, fun k hk => ?_⟩, hgb⟩
    · rw [hsum, hfm.2, show (i + 1) * 3 = i * 3 + 3 by omega, ins_flat]
      exact sets_two1 hpre rfl hpost (by omega) (fun j hj => by rw [← hfm.1, ← hb4, List.take_take, List.getElem?_take, if_pos (by omega)])
    · injection hk with hk
      subst hk
      exact .inl hFg
end Go.Proofs.YtibndaianhlcaaaGreatDoor
