/- machine.user: a text is looked for and put into a risen list. machine.user. machine.Reset. slices.DeleteFunc as Do calls it: the closures. slices.DeleteFunc: what its loop does to a row. -/
import Derived.Test.YtibndaianhlcaaaDoorPart10
import Derived.Test.YtibndaianhlcaaaDoorPart6
namespace Go.Proofs.YtibndaianhlcaaaDoor
open Go.RowKit Go.Sort Go.Shelf
set_option linter.unusedVariables false
set_option linter.unusedSimpArgs false

theorem bs_any {w : World} {B : Nat} {A : Option Addr} {n c : Nat} {l : List Txt} (h : Slc w B 1 A n c (l.map encStr)) (hr : Rises l) (hn : n ≤ 1000000000) (x : Txt) :
    Calls Tryd.prog 46 #[.slice A n c, .string ⟨x.toArray⟩] w fun e w' => e = .returned (.tuple #[.int .i64 (aheadN l x : Int), .bool (decide (l[aheadN l x]? = some x))]) ∧ ∃ q, w' = w.drewN q := by
  have hl : l.length = n := by have := h.len; simpa using this
  rcases Nat.eq_zero_or_pos n with h0 | h0
  · subst h0
    obtain rfl : l = [] := List.eq_nil_of_length_eq_zero hl
    refine (Any2.slices_BinarySearch_string_empty Tryd.bsS A c ⟨x.toArray⟩ w).mono ?_
    rintro e w' ⟨rfl, rfl⟩
    exact ⟨rfl, 0, rfl⟩
  · obtain ⟨b, off, rfl, _, hc⟩ := h.at_ h0
    have hless : ∀ t, Op.bytesLess (bytesOf (l.getD t x)).toList (ByteArray.mk x.toArray).toList = decide (l.getD t x < x) := fun t => less_str _ _
    have hget : ∀ t (ht : t < l.length), l.getD t x = l[t] := fun t ht => by simp [List.getD, ht]
    have hle := aheadN_le l x
    have hk : Lib.bsGo (fun t => Op.bytesLess (bytesOf (l.getD t x)).toList (ByteArray.mk x.toArray).toList) n 0 n = aheadN l x := by
      refine Lib.bsGo_spec _ (aheadN l x) (fun t ht => ?_) (fun t ht => ?_) n 0 n (by omega) (Nat.zero_le _) (by omega)
      · rw [hless, hget t (by omega)]
        exact decide_eq_true (aheadN_lt l x ht (by omega))
      · rw [hless]
        apply decide_eq_false
        by_cases htl : t < l.length
        · rw [hget t htl]
          rcases Nat.eq_or_lt_of_le ht with h1 | h1
          · subst h1
            exact aheadN_ge l x htl
          · intro h2
            exact aheadN_ge l x (by omega) (List.lt_trans (rises_get hr (by omega) htl h1) h2)
        · have : l.getD t x = x := by simp [List.getD, htl]
          rw [this]
          exact txt_irrefl x
    refine (Any2.slices_BinarySearch_string Tryd.bsS b off n c (fun t => bytesOf (l.getD t x)) ⟨x.toArray⟩ w (by omega) (fun j hj => ?_)).mono ?_
    · have hjl : j < l.length := by omega
      rw [hc j (encStr l[j]) (by rw [List.getElem?_map, List.getElem?_eq_getElem hjl]; rfl), hget j hjl]
      rfl
    · rintro e w' ⟨rfl, hq⟩
      refine ⟨?_, hq⟩
      rw [hk]
      have key : ∀ {p q : Bool}, p = q → Ending.returned (.tuple #[.int .i64 (aheadN l x : Int), .bool p]) = Ending.returned (.tuple #[.int .i64 (aheadN l x : Int), .bool q]) := fun h => by rw [h]
      apply key
      apply decide_eq_decide.2
      constructor
      · rintro ⟨h1, h2⟩
        rw [hget _ (by omega)] at h2
        rw [List.getElem?_eq_getElem (by omega)]
        exact congrArg some (bytesOf_inj h2)
      · intro h1
        obtain ⟨h2, h3⟩ := List.getElem?_eq_some_iff.1 h1
        exact ⟨by omega, by rw [hget _ h2, h3]; rfl⟩

theorem ins_shape {cs L : List Value} {x : Value} {i : Nat} (hi : i ≤ cs.length) (h1 : ∀ j, j < i → L[j]? = cs[j]?) (h2 : L[i]? = some x) (h3 : ∀ j, i ≤ j → j < cs.length → L[j + 1]? = cs[j]?) :
    L.take (cs.length + 1) = cs.take i ++ x :: cs.drop i := by
  apply List.ext_getElem?
  intro j
  have hlt : (cs.take i).length = i := by rw [List.length_take]; omega
  rw [List.getElem?_take]
  rcases Nat.lt_trichotomy j i with h | h | h
  · rw [if_pos (by omega), h1 j h, List.getElem?_append_left (by omega), List.getElem?_take, if_pos h]
  · subst h
    rw [if_pos (by omega), h2, List.getElem?_append_right (by omega), hlt, Nat.sub_self]
    rfl
  · obtain ⟨k, rfl⟩ : ∃ k, j = k + 1 := ⟨j - 1, by omega⟩
    rw [List.getElem?_append_right (by omega), hlt, show k + 1 - i = (k - i) + 1 by omega, List.getElem?_cons_succ, List.getElem?_drop, show i + (k - i) = k by omega]
    by_cases hk : k < cs.length
    · rw [if_pos (by omega), h3 k (by omega) hk]
    · rw [if_neg (by omega), List.getElem?_eq_none (by omega)]
theorem sets_get {cur : Array Value} {vs : List Value} {o : Nat} (h : o + vs.length ≤ cur.size) (j : Nat) : (sets cur o vs).toList[j]? = if j < o then cur.toList[j]? else if j < o + vs.length then vs[j - o]? else cur.toList[j]? := by
  have hcl : cur.toList.length = cur.size := Array.length_toList
  have h1 : (cur.toList.take o).length = o := by rw [List.length_take]; omega
  rw [sets_list _ _ _ h, List.append_assoc]
  by_cases a : j < o
  · rw [if_pos a, List.getElem?_append_left (by omega), List.getElem?_take, if_pos a]
  · rw [if_neg a, List.getElem?_append_right (by omega), h1]
    by_cases b : j < o + vs.length
    · rw [if_pos b, List.getElem?_append_left (by omega)]
    · rw [if_neg b, List.getElem?_append_right (by omega), List.getElem?_drop]
      congr 1
      omega
theorem ins_list1 {cs : List Value} {cur : Array Value} {x : Value} {i : Nat} (hi : i ≤ cs.length) (hs : cs.length + 1 ≤ cur.size) (ht : ∀ j, j < i → cur.toList[j]? = cs[j]?) :
    (sets (sets cur (i + 1) (cs.drop i)) i [x]).toList.take (cs.length + 1) = cs.take i ++ x :: cs.drop i := by
  have hd : (cs.drop i).length = cs.length - i := List.length_drop
  have e1 : i + 1 + (cs.drop i).length ≤ cur.size := by omega
  have e2 : i + [x].length ≤ (sets cur (i + 1) (cs.drop i)).size := by rw [sets_size]; simp; omega
  refine ins_shape hi (fun j hj => ?_) ?_ (fun j hj hjn => ?_)
  · rw [sets_get e2, if_pos hj, sets_get e1, if_pos (by omega)]
    exact ht j hj
  · rw [sets_get e2, if_neg (by omega), if_pos (by simp), Nat.sub_self]
    rfl
  · rw [sets_get e2, if_neg (by omega), if_neg (by simp; omega), sets_get e1, if_neg (by omega), if_pos (by omega), List.getElem?_drop]
    congr 1
    omega
theorem ins_list2 {cs : List Value} {cur : Array Value} {x : Value} {i : Nat} (hi : i ≤ cs.length) (hs : cs.length + 1 ≤ cur.size) (ht : ∀ j, j < i → cur.toList[j]? = cs[j]?) :
    (sets (sets cur i [x]) (i + 1) (cs.drop i)).toList.take (cs.length + 1) = cs.take i ++ x :: cs.drop i := by
  have hd : (cs.drop i).length = cs.length - i := List.length_drop
  have e1 : i + [x].length ≤ cur.size := by simp; omega
  have e2 : i + 1 + (cs.drop i).length ≤ (sets cur i [x]).size := by rw [sets_size]; omega
  refine ins_shape hi (fun j hj => ?_) ?_ (fun j hj hjn => ?_)
  · rw [sets_get e2, if_pos (by omega), sets_get e1, if_pos hj]
    exact ht j hj
  · rw [sets_get e2, if_pos (by omega), sets_get e1, if_neg (by omega), if_pos (by simp), Nat.sub_self]
    rfl
  · rw [sets_get e2, if_neg (by omega), if_pos (by omega), List.getElem?_drop]
    congr 1
    omega
/-- What slices.Insert of one text does. -/
def InsPost (w : World) (F : Nat → Prop) (A : Option Addr) (n c : Nat) (l : List Txt) (i : Nat) (x : Txt) : Ending → World → Prop := fun e w' => ∃ A' c', e = .returned (.slice A' (n + 1) c') ∧ Row w' (Fn F w w') 9 1 (.slice A' (n + 1) c') (n + 1) ((insA l i x).map encStr) ∧ w.grownBy w' (Value.slice A n c).ownBlock ∧
  (∀ k, (Value.slice A' (n + 1) c').ownBlock = some k → (Value.slice A n c).ownBlock = some k ∨ w.heap.size ≤ k)
theorem ins_map (l : List Txt) (i : Nat) (x : Txt) : (insA l i x).map encStr = (l.map encStr).take i ++ encStr x :: (l.map encStr).drop i := by simp [insA, List.map_take, List.map_drop]
/-- The row lies in a block that is new. -/
theorem ins_new {w w' : World} {F : Nat → Prop} {A : Option Addr} {n c cap : Nat} {l : List Txt} {i : Nat} {x : Txt} {cur : Array Value} (hi : i ≤ n) (hl : l.length = n) (hz : w.heap.size < w'.heap.size) (hB : Blk w' w.heap.size 9 cur) (h1 : n + 1 ≤ cap) (h2 : cap ≤ maxLen) (h3 : cur.size = cap) (h4 : cur.toList.take (n + 1) = (l.map encStr).take i ++ encStr x :: (l.map encStr).drop i)
    (hg : w.grownBy w' (Value.slice A n c).ownBlock) : InsPost w F A n c l i x (.returned (.slice (some ⟨w.heap.size, 0, none⟩) (n + 1) cap)) w' := by
  refine ⟨_, _, rfl, ⟨⟨by rw [List.length_map, ins_length, hl]; omega, .inr ⟨w.heap.size, cap, cur, rfl, Nat.zero_le _, hB, h1, h2, by omega, ?_⟩⟩, fun k hk => ?_⟩, hg, fun k hk => ?_⟩
  · rw [Nat.mul_one, h4, ins_map]
  · injection hk with hk
    subst hk
    exact .inr ⟨Nat.le_refl _, hz⟩
  · injection hk with hk
    subst hk
    exact .inr (Nat.le_refl _)
theorem ins_old {w w' : World} {F : Nat → Prop} {g n c : Nat} {l : List Txt} {i : Nat} {x : Txt} {cur : Array Value} (hF : F g) (hl : l.length = n) (hB : Blk w' g 9 cur) (h1 : n + 1 ≤ c) (h2 : c ≤ maxLen) (h3 : cur.size = c) (h4 : cur.toList.take (n + 1) = (l.map encStr).take i ++ encStr x :: (l.map encStr).drop i)
    (hg : w.grownBy w' (some g)) : InsPost w F (some ⟨g, 0, none⟩) n c l i x (.returned (.slice (some ⟨g, 0, none⟩) (n + 1) c)) w' := by
  refine ⟨_, _, rfl, ⟨⟨by rw [List.length_map, ins_length, hl]; omega, .inr ⟨g, c, cur, rfl, Nat.zero_le _, hB, h1, h2, by omega, ?_⟩⟩, fun k hk => ?_⟩, hg, fun k hk => .inl hk⟩
  · rw [Nat.mul_one, h4, ins_map]
  · injection hk with hk
    subst hk
    exact .inl hF
theorem insS_any {w : World} {F : Nat → Prop} {A : Option Addr} {n c : Nat} {l : List Txt} (h : Row w F 9 1 (.slice A n c) n (l.map encStr)) {i : Nat} (hi : i ≤ n) (hn : n ≤ 1000000000) (x : Txt) {vb : Nat} (hv : Blk w vb 9 #[encStr x]) (hvF : ¬ F vb) :
    Calls Tryd.prog 47 #[.slice A n c, .int .i64 (i : Int), .slice (some ⟨vb, 0, none⟩) 1 1] w (InsPost w F A n c l i x) := by
  have hl : l.length = n := by have := h.own.1; simpa using this
  have hcl : (l.map encStr).length = n := by rw [List.length_map, hl]
  have hvs : ∀ j v, [encStr x][j]? = some v → w.cell? ⟨vb, 0 + j, none⟩ = some v := fun j v hj => by
    cases j with
    | zero => rw [hv.cell 0]; simpa using hj
    | succ j => simp at hj
  have h1v : ∀ v ∈ [encStr x], v.oneCell' = true := fun v hv => by rw [List.mem_singleton.1 hv]; rfl
  have h1c := strs_one20 l
  have hbig : (n + 1) * 16 ≤ 140737488355328 := by omega
  have hgc := grownCap_ge w (n + 1) c 9
  have hgm : grownCap w (n + 1) c 9 ≤ maxLen := grownCap_le_maxLen w (n + 1) c _ (by unfold maxLen; omega)
  have hz1 : (Value.string (⟨#[]⟩ : ByteArray)).cells.size = 1 := rfl
  rcases Nat.lt_or_ge c (n + 1) with hroom | hroom
  · -- it grows
    have hnc : n ≤ c := by
      rcases h.own.2 with ⟨e, h0⟩ | ⟨g, cap, cur, e, _, _, h3, _⟩
      · omega
      · injection e with _ _ e3; subst e3; exact h3
    rcases Nat.eq_or_lt_of_le hi with hin | hin
    · subst hin
      refine (Any2.slices_Insert_string_end_grow Tryd.insS A i c vb 0 1 1 (l.map encStr) [encStr x] w (by decide) hnc hroom hbig hcl rfl (fun e => ?_) (fun a e j v hj => ?_) hvs h1v).mono ?_
      · rcases h.own.2 with ⟨_, h0⟩ | ⟨g, cap, cur, e1, _⟩
        · exact h0
        · injection e1 with e1; rw [e] at e1; cases e1
      · obtain ⟨A', c', e1, hs⟩ := h.slc
        injection e1 with e1 _ e3
        subst e1 e3
        have hi0 : 0 < i := by have := (List.getElem?_eq_some_iff.1 hj).1; omega
        obtain ⟨b, off, e2, _, hc⟩ := hs.at_ hi0
        rw [e] at e2
        injection e2 with e2
        subst e2
        rw [addr_of_add]
        exact hc j v hj
      · rintro e w' ⟨he, hw⟩
        have hw : w' = w.drew.alloc (.cells ((l.map encStr ++ [encStr x]).toArray ++ Builtin.zeroCells (Value.string ⟨#[]⟩).cells (grownCap w (i + 1) c 9 - (i + 1))) 9) := hw
        have he : e = .returned (.slice (some ⟨w.heap.size, 0, none⟩) (i + 1) (grownCap w (i + 1) c 9)) := he
        subst hw he
        refine ins_new (Nat.le_refl _) hl (by simp) (Blk.new w.drew _ _) hgc hgm (by simp only [Array.size_append, List.size_toArray, size_zeroCells, hz1, List.length_append, hcl, List.length_cons, List.length_nil]; omega) ?_ ⟨rfl, rfl, rfl, by simp, fun k hk _ => Below.heap_alloc w.drew _ k hk⟩
        rw [Array.toList_append, List.take_append_of_le_length (by simp [hl])]
        rw [List.take_of_length_le (by simp [hl]), List.take_of_length_le (by omega), List.drop_eq_nil_of_le (by omega)]
    · rcases h.own.2 with ⟨_, h0⟩ | ⟨g, cap, cur, e, hb0, hb, hb1, hb2, hb3, hb4⟩
      · omega
      injection e with e1 _ e3
      subst e1 e3
      have hcs : ∀ j v, (l.map encStr)[j]? = some v → w.cell? ⟨g, 0 + j, none⟩ = some v := fun j v hj => by
        have hB : Blk w g 9 cur := hb
        rw [hB.cell, Nat.zero_add, ← Array.getElem?_toList]
        rw [← hb4, List.getElem?_take] at hj
        split at hj
        · exact hj
        · cases hj
      refine (Any2.slices_Insert_string_grow Tryd.insS g 0 n c i vb 0 1 1 (l.map encStr) [encStr x] w hin (by decide) hnc hroom hbig hcl rfl hcs hvs h1c h1v).mono ?_
      rintro e w' ⟨he, hw⟩
      have he : e = .returned (.slice (some ⟨w.heap.size, 0, none⟩) (n + 1) (grownCap w (n + 1) c 9)) := he
      obtain ⟨C0, hC0⟩ : ∃ C0 : Array Value, C0 = ((l.map encStr).take i).toArray ++ Builtin.zeroCells (Value.string ⟨#[]⟩).cells (n + 1 - i) ++ Builtin.zeroCells (Value.string ⟨#[]⟩).cells (grownCap w (n + 1) c 9 - (n + 1)) := ⟨_, rfl⟩
      have hw : w' = (((w.alloc (.cells C0 9)).drew.setCells w.heap.size i [encStr x]).drew).setCells w.heap.size (i + 1) ((l.map encStr).drop i) := by rw [hC0]; exact hw
      have hCs : C0.size = grownCap w (n + 1) c 9 := by
        rw [hC0]
        simp only [Array.size_append, List.size_toArray, size_zeroCells, hz1, List.length_take, hcl]
        omega
      have hCt : ∀ j, j < i → C0.toList[j]? = (l.map encStr)[j]? := fun j hj => by
        rw [hC0, Array.toList_append, Array.toList_append, List.append_assoc, List.getElem?_append_left (by simp [hl]; omega)]
        simp only [List.getElem?_take, if_pos hj]
      have hB1 := Blk.setCells ((l.map encStr).drop i) (i + 1) ((Blk.setCells [encStr x] i ((Blk.new w 9 C0).drew)).drew)
      rw [← hw] at hB1
      have hgb : (w.alloc (.cells C0 9)).grownBy w' (some w.heap.size) := by
        rw [hw]
        have g1 := grownBy_setCells (g := w.heap.size) (a := w.alloc (.cells C0 9)) [encStr x] i (w := (w.alloc (.cells C0 9)).drew) ⟨rfl, rfl, rfl, Nat.le_refl _, fun _ _ _ => rfl⟩
        exact grownBy_setCells _ _ ⟨g1.os, g1.tape, g1.output, g1.size, g1.block⟩
      have hsz := hgb.size
      rw [World.size_alloc] at hsz
      subst he
      refine ins_new hi hl (by omega) hB1 hgc hgm (by rw [sets_size, sets_size, hCs]) ?_ ⟨hgb.os, hgb.tape, hgb.output, by omega, fun k hk _ => by rw [hgb.block k (by simp; omega) (by intro e9; injection e9 with e9; omega), Below.heap_alloc w _ k hk]⟩
      have := ins_list2 (cs := l.map encStr) (cur := C0) (x := encStr x) (i := i) (by omega) (by omega) hCt
      rwa [hcl] at this
  · rcases h.own.2 with ⟨e, h0⟩ | ⟨g, cap, cur, e, hb0, hb, hb1, hb2, hb3, hb4⟩
    · injection e with _ _ e3; omega
    injection e with e1 _ e3
    subst e1 e3
    have hB : Blk w g 9 cur := hb
    have hFg : F g := h.foot g rfl
    have hct : ∀ j, j < n → cur.toList[j]? = (l.map encStr)[j]? := fun j hj => by rw [← hb4, List.getElem?_take, if_pos (by omega)]
    have hc63 : c ≤ 9223372036854775807 := by unfold maxLen at hb2; omega
    rcases Nat.eq_or_lt_of_le hi with hin | hin
    · subst hin
      refine (Any2.slices_Insert_string_end_room Tryd.insS g 0 i c vb 0 1 1 [encStr x] w (by decide) hroom hc63 rfl (fun j hj => by rw [hB.cell, Array.getElem?_eq_getElem (by omega)]; rfl) (fun j hj => hB.frozen _) hvs h1v).mono ?_
      rintro e w' ⟨he, hw⟩
      subst he hw
      refine ins_old hFg hl (Blk.setCells _ _ hB) hroom hb2 (by rw [sets_size]; omega) ?_ (grownBy_setCells _ _ (World.grownBy.refl _ _))
      have := ins_list2 (cs := l.map encStr) (cur := cur) (x := encStr x) (i := i) (by omega) (by omega) hct
      rw [hcl, List.drop_eq_nil_of_le (by omega : (l.map encStr).length ≤ i)] at this
      rw [Nat.zero_add, List.drop_eq_nil_of_le (by omega : (l.map encStr).length ≤ i)]
      exact this
    · have hcs : ∀ j v, (l.map encStr)[j]? = some v → w.cell? ⟨g, 0 + j, none⟩ = some v := fun j v hj => by
        rw [hB.cell, Nat.zero_add, ← Array.getElem?_toList, hct j (by have := (List.getElem?_eq_some_iff.1 hj).1; omega)]
        exact hj
      refine (Any2.slices_Insert_string_shift Tryd.insS g 0 n c i vb 0 1 1 (l.map encStr) [encStr x] w hin (by decide) hroom hc63 (by rintro rfl; exact hvF hFg) hcl rfl hcs (fun j hj => by rw [hB.cell, Array.getElem?_eq_getElem (by omega)]; rfl) (fun j hj => hB.frozen _) hvs h1c h1v 9 9 1 cur.size (by unfold World.shape?; rw [show w.heap[vb]? = _ from hv]; rfl) (by unfold World.shape?; rw [hb]) (by omega) (hv.frozen _) (hv.frozen _)).mono ?_
      rintro e w' ⟨he, hw⟩
      subst he hw
      refine ins_old hFg hl (Blk.setCells _ _ (Blk.setCells _ _ hB.drew)) hroom hb2 (by rw [sets_size, sets_size]; omega) ?_ (grownBy_setCells _ _ (grownBy_setCells _ _ ⟨rfl, rfl, rfl, Nat.le_refl _, fun _ _ _ => rfl⟩))
      have := ins_list1 (cs := l.map encStr) (cur := cur) (x := encStr x) (i := i) (by omega) (by omega) (fun j hj => hct j (by omega))
      rw [hcl] at this
      rw [Nat.zero_add, Nat.zero_add]
      exact this
end Go.Proofs.YtibndaianhlcaaaDoor
namespace Go.Proofs.YtibndaianhlcaaaDoor
open Go.RowKit Go.Sort Go.Shelf
set_option linter.unusedVariables false
set_option linter.unusedSimpArgs false

section
variable {w w' : World} {F : Nat → Prop} {g : Nat} {s : Mach} {fA : Option Addr} {fn fc : Nat} {es : List EV} {uA : Option Addr} {un uc : Nat} {nA : Option Addr} {nn nc : Nat} {us : List SV} {pA : Option Addr} {pn pc : Nat}
/-- Its users turn. -/
theorem MachV.setUsers (h : MachV w F g s fA fn fc es uA un uc nA nn nc us pA pn pc) {G : Nat → Prop} (hg : w.grownBy w' (Value.slice uA un uc).ownBlock) (hF : ∀ k, F k → G k) {uA' : Option Addr} {un' uc' : Nat} {l : List Txt}
    (hu : Row w' G 9 1 (.slice uA' un' uc') un' (l.map encStr)) (hnew : ∀ k, (Value.slice uA' un' uc').ownBlock = some k → (Value.slice uA un uc).ownBlock = some k ∨ w.heap.size ≤ k) :
    MachV (w'.setCell ⟨g, 1, none⟩ (.slice uA' un' uc')) G g ⟨s.files, l, s.units, s.plan⟩ fA fn fc es uA' un' uc' nA nn nc us pA pn pc := by
  have ht := row_typed h.users
  have k1 : ∀ {e : TypeId}, e ≠ 9 → _ := fun {e} he => grown_other hg ht (e := e) he
  have hB : Blk w' g 36 _ := (k1 (by decide) g _ (0, 0) h.blk).trans h.blk
  have k2 : ∀ {e : TypeId}, e ≠ 36 → _ := fun {e} he => set_other hB (e := e) he 1 (.slice uA' un' uc')
  have hs : w'.heap.size ≤ (w'.setCell ⟨g, 1, none⟩ (.slice uA' un' uc')).heap.size := by simp [World.setCell]
  have str : ∀ {v : Value} {n : Nat} {xs : List Value}, Row w F 9 1 v n xs → (∀ k, (Value.slice uA un uc).ownBlock = some k → v.ownBlock ≠ some k) → Row (w'.setCell ⟨g, 1, none⟩ (.slice uA' un' uc')) G 9 1 v n xs := fun hr hsep =>
    ((hr.kept (fun k hk => hg.block k (hr.own.lt k hk).2 (fun e => hsep k e.symm hk)) hr.foot).other (k2 (by decide))).wide hF
  refine ⟨hB.set_ 1 _, hF _ h.foot, ((h.files.other (k1 (by decide))).other (k2 (by decide))).wide hF, h.ents, fun e he => (((h.data e he).other (k1 (by decide))).other (k2 (by decide))).wide hF, hu.other (k2 (by decide)),
    ((h.units.other (k1 (by decide))).other (k2 (by decide))).wide hF, h.srvs, fun u hu' => str (h.req u hu') (fun k hk => (h.sep u hu' k hk).1), fun u hu' => str (h.aft u hu') (fun k hk => (h.sep u hu' k hk).2), ((h.plan.other hg.size (k1 (by decide))).other hs (k2 (by decide))).wide hF, fun u hu' k hk => ?_⟩
  rcases hnew k hk with h1 | h1
  · exact h.sep u hu' k h1
  · exact ⟨fun e => by have := ((h.req u hu').own.lt k e).2; omega, fun e => by have := ((h.aft u hu').own.lt k e).2; omega⟩
theorem MachV.kept1 (h : MachV w F g s fA fn fc es uA un uc nA nn nc us pA pn pc) (hg : w.grownBy w' (Value.slice uA un uc).ownBlock) : w'.cell? ⟨g, 1, none⟩ = some (.slice uA un uc) ∧ w'.frozen? ⟨g, 1, none⟩ = false := by
  have hk := grown_other hg (row_typed h.users) (e := 36) (by decide) g _ (0, 0) h.blk
  have hB : Blk w' g 36 _ := hk.trans h.blk
  exact ⟨hB.cell 1, hB.frozen 1⟩
end
set_option maxRecDepth 100000 in
set_option maxHeartbeats 2000000 in
theorem user_any {w : World} {F : Nat → Prop} {g : Nat} {s : Mach} (h : MachAt w F g s) (hr : Rises s.users) (hn : s.users.length ≤ 1000000) (name : Txt) (hname : name.length ≤ 1000000000) (hFl : ∀ k, F k → k < w.heap.size) :
    Calls Tryd.prog 25 #[.pointer (some ⟨g, 0, none⟩), .string ⟨name.toArray⟩] w (MachPost w F g (doUser s name)) := by
  obtain ⟨fA, fn, fc, es, uA, un, uc, nA, nn, nc, us, pA, pn, pc, h⟩ := h
  have hnm := name_any ⟨name.toArray⟩ w (by show name.toArray.size ≤ maxLen; rw [List.size_toArray]; unfold maxLen; omega)
  have ht : (ByteArray.mk name.toArray).data.toList = name := rfl
  rw [ht] at hnm
  have hun := h.ulen
  have H := Lib.hid h
  have fin : Hid (∀ k w', Below w.heap.size w w' → MachPost w F g (s, k) (.returned (.int .i64 k)) w') := fun k w' hb => ⟨rfl, ⟨fA, fn, fc, es, uA, un, uc, nA, nn, nc, us, pA, pn, pc, (H.out.below hb).wide (fn_wide _ _ _)⟩, (Step.of_below hb F).fn⟩
  have HFL := Lib.hid hFl
  have HR := Lib.hid hr
  have HN := Lib.hid hn
  have HUN := Lib.hid hun
  clear ht hFl hr
  cases hm : nameB name with
  | false =>
    rw [hm] at hnm
    have HX := Lib.hid (show doUser s name = (s, 70) by unfold doUser; rw [if_neg (by rw [hm]; decide)])
    clear hm h hun hn
    go_enter Tryd.func25, Tryd.ntmps25
    go_wp2_with (go_at_call 45; refine hnm.mono ?_; clear hnm; rintro e w2 ⟨rfl, hb2⟩)
    go_ret
    rw [HX.out]
    exact fin.out 70 _ hb2
  | true =>
    rw [hm] at hnm
    obtain ⟨k, hk⟩ : ∃ k, k = aheadN s.users name := ⟨_, rfl⟩
    have HK := Lib.hid hk
    have hkn : k ≤ un := by rw [hk]; have := aheadN_le s.users name; omega
    have hbs : Hid (∀ {W : World}, Below w.heap.size w W → Calls Tryd.prog 46 #[.slice uA un uc, .string ⟨name.toArray⟩] W fun e w' => e = .returned (.tuple #[.int .i64 (k : Int), .bool (decide (s.users[k]? = some name))]) ∧ ∃ q, w' = W.drewN q) := fun hb => by
      rw [hk]; exact bs_any ((H.out.users.slc').below hb) HR.out (by have := HN.out; have := HUN.out; omega) name
    have HM := Lib.hid hm
    cases hat : decide (s.users[k]? = some name) with
    | true =>
      rw [hat] at hbs
      have HX := Lib.hid (show doUser s name = (s, 0) by unfold doUser; rw [if_pos HM.out, if_pos (by rw [← HK.out]; exact of_decide_eq_true hat)])
      clear hm h hun hn hat hk
      go_enter Tryd.func25, Tryd.ntmps25
      go_wp2_with (first
        | (go_at_call 45; refine hnm.mono ?_; clear hnm; rintro e w2 ⟨rfl, hb2⟩; have m1 := (H.out.below hb2).facts.2.1; have HB2 := Lib.hid hb2; clear hb2)
        | (go_at_call 46; refine (hbs.out HB2.out).mono ?_; rintro e w3 ⟨rfl, q, rfl⟩))
      go_ret
      rw [HX.out]
      exact fin.out 0 _ (bel_drewN HB2.out q)
    | false =>
      rw [hat] at hbs
      have HAT := Lib.hid (of_decide_eq_false hat)
      clear hat
      by_cases h16 : un = 16
      · have HX := Lib.hid (show doUser s name = (s, 70) by unfold doUser; rw [if_pos HM.out, if_neg (by rw [← HK.out]; exact HAT.out), if_pos (by omega)])
        have h16b : ((un : Int) == 16) = true := by rw [h16]; rfl
        clear hm h hun hn hk h16
        go_enter Tryd.func25, Tryd.ntmps25
        go_wp2_with (first
          | (go_at_call 45; refine hnm.mono ?_; clear hnm; rintro e w2 ⟨rfl, hb2⟩; have m1 := (H.out.below hb2).facts.2.1; have HB2 := Lib.hid hb2; clear hb2)
          | (go_at_call 46; refine (hbs.out HB2.out).mono ?_; rintro e w3 ⟨rfl, q, rfl⟩))
        go_ret
        rw [HX.out]
        exact fin.out 70 _ (bel_drewN HB2.out q)
      · have HX := Lib.hid (show doUser s name = (⟨s.files, insA s.users k name, s.units, s.plan⟩, 0) by unfold doUser; rw [if_pos HM.out, if_neg (by rw [← HK.out]; exact HAT.out), if_neg (by omega), ← HK.out])
        have h16b : ((un : Int) == 16) = false := by rw [beq_eq_false_iff_ne]; omega
        have hun9 : un ≤ 1000000000 := by omega
        have hins : Hid (∀ {W : World}, Below w.heap.size w W → Calls Tryd.prog 47 #[.slice uA un uc, .int .i64 (k : Int), .slice (some ⟨W.heap.size, 0, none⟩) 1 1] (W.alloc (.cells #[.string ⟨name.toArray⟩] 9)) (InsPost (W.alloc (.cells #[.string ⟨name.toArray⟩] 9)) F uA un uc s.users k name)) := fun {W} hb =>
          insS_any (w := W.alloc (.cells #[.string ⟨name.toArray⟩] 9)) (H.out.below (hb.alloc hb.size _)).users hkn hun9 name (Blk.new W _ _) (fun h9 => by have := HFL.out _ h9; have := hb.size; omega)
        clear hm h hun hn hk
        go_enter Tryd.func25, Tryd.ntmps25
        go_wp2_with (first
          | (go_at_call 45; refine hnm.mono ?_; clear hnm; rintro e w2 ⟨rfl, hb2⟩; have m1 := (H.out.below hb2).facts.2.1; have hg2 : g < w2.heap.size := Nat.lt_of_lt_of_le H.out.blk.lt hb2.size; have HB2 := Lib.hid hb2; clear hb2)
          | (go_at_call 46; refine (hbs.out HB2.out).mono ?_; rintro e w3 ⟨rfl, q, rfl⟩; have hi9 := hins.out (bel_drewN HB2.out q))
          | (go_at_call 47; go_loud (refine hi9.mono ?_; clear hi9; rintro e w4 ⟨A4, c4, rfl, hR4, hg4, hn4⟩; have hbx : Below w.heap.size w ((w2.drewN q).alloc (.cells #[.string ⟨name.toArray⟩] 9)) := (bel_drewN HB2.out q).alloc HB2.out.size _; have hv4 := ((H.out.below hbx).setUsers (w' := w4) hg4 (fn_wide _ _ _) hR4 hn4); have hk4 := (H.out.below hbx).kept1 hg4; obtain ⟨m4, f4⟩ := hk4; have HV4 := Lib.hid hv4; have HG4 := Lib.hid hg4; have HBX := Lib.hid hbx; clear hR4 hg4 hn4 hv4 hbx)))
        go_ret
        rw [HX.out]
        have hst := ((Step.of_below HBX.out F).grown HG4.out (fun k hk => .inl (H.out.users.foot k hk))).setCell (p := ⟨g, 1, none⟩) (.inl H.out.foot) (.slice A4 (un + 1) c4)
        have hsz : (w4.setCell ⟨g, 1, none⟩ (.slice A4 (un + 1) c4)).heap.size = w4.heap.size := by simp [World.setCell]
        refine ⟨rfl, ⟨_, _, _, _, _, _, _, _, _, _, _, _, _, _, HV4.out.wide fun k hk => ?_⟩, hst.fn⟩
        have h9 := HBX.out.size
        unfold Fn
        rw [hsz]
        rcases hk with hk | hk
        · exact .inl hk
        · exact .inr ⟨by omega, hk.2⟩
end Go.Proofs.YtibndaianhlcaaaDoor
namespace Go.Proofs.YtibndaianhlcaaaDoor
open Go.RowKit Go.Sort Go.Shelf
set_option linter.unusedVariables false
set_option linter.unusedSimpArgs false

set_option maxRecDepth 100000 in
set_option maxHeartbeats 1000000 in
theorem reset_any {w : World} {F : Nat → Prop} {g : Nat} {s : Mach} (h : MachAt w F g s) :
    Calls Tryd.prog 14 #[.pointer (some ⟨g, 0, none⟩)] w fun e w' => e = .returned (.tuple #[]) ∧ MachAt w' F g ⟨[], [], [], s.plan⟩ ∧ Step w w' F F := by
  obtain ⟨fA, fn, fc, es, uA, un, uc, nA, nn, nc, us, pA, pn, pc, h⟩ := h
  obtain ⟨m0, m1, m2, _, mf⟩ := h.facts
  have f0 := mf 0
  have f1 := mf 1
  have f2 := mf 2
  have hB0 := h.blk
  have hB1 := hB0.set_ 0 (.slice none 0 0)
  have hB2 := hB1.set_ 1 (.slice none 0 0)
  have hB3 := hB2.set_ 2 (.slice none 0 0)
  have hp := ((h.plan.other (w' := w.setCell ⟨g, 0, none⟩ (.slice none 0 0)) (by simp [World.setCell]) (set_other hB0 (by decide) 0 _)).other (w' := (w.setCell ⟨g, 0, none⟩ (.slice none 0 0)).setCell ⟨g, 1, none⟩ (.slice none 0 0)) (by simp [World.setCell]) (set_other hB1 (by decide) 1 _)).other (w' := ((w.setCell ⟨g, 0, none⟩ (.slice none 0 0)).setCell ⟨g, 1, none⟩ (.slice none 0 0)).setCell ⟨g, 2, none⟩ (.slice none 0 0)) (by simp [World.setCell]) (set_other hB2 (by decide) 2 _)
  have HV : Hid (MachAt (((w.setCell ⟨g, 0, none⟩ (.slice none 0 0)).setCell ⟨g, 1, none⟩ (.slice none 0 0)).setCell ⟨g, 2, none⟩ (.slice none 0 0)) F g ⟨[], [], [], s.plan⟩) :=
    ⟨none, 0, 0, [], none, 0, 0, none, 0, 0, [], pA, pn, pc, hB3, h.foot, Row.nil _ _ _ _, rfl, (fun e he => by cases he), Row.nil _ _ _ _, Row.nil _ _ _ _, rfl, (fun u hu => by cases hu), (fun u hu => by cases hu), hp, fun u hu => by cases hu⟩
  have HS := Lib.hid ((((Step.refl w F).setCell (p := ⟨g, 0, none⟩) (.inl h.foot) (.slice none 0 0)).setCell (p := ⟨g, 1, none⟩) (.inl h.foot) (.slice none 0 0)).setCell (p := ⟨g, 2, none⟩) (.inl h.foot) (.slice none 0 0))
  clear h hB0 hB1 hB2 hB3 hp mf
  go_enter Tryd.func14, Tryd.ntmps14
  go_wp2_with (fail)
  go_end0
  exact ⟨rfl, HV.out, HS.out⟩
end Go.Proofs.YtibndaianhlcaaaDoor
namespace Go.Proofs.YtibndaianhlcaaaDoor
open Go.RowKit Go.Sort Go.Shelf
set_option linter.unusedVariables false
set_option linter.unusedSimpArgs false

theorem predE_any (x : EV) (name : Txt) (ba : Nat) (w : World) (hbn : w.cell? ⟨ba, 1, none⟩ = some (.string ⟨name.toArray⟩)) :
    Calls Tryd.prog 21 #[.agg (evArr x), .pointer (some ⟨ba, 0, none⟩)] w fun e w' => e = .returned (.bool (decide (x.path = name))) ∧ Below w.heap.size w w' := by
  have hlt : ba < w.heap.size := World.block_lt_of_cell? _ _ hbn
  have t2 : (ByteArray.mk name.toArray).toList = name := Go.ByteArray.toList_eq _
  have hb := (Below.refl w.heap.size w).alloc (Nat.le_refl _) (.cells (evArr x) 44)
  unfold evArr at hb ⊢
  obtain ⟨xp, xk, xd, xA, xn, xc⟩ := x
  have t1 : (ByteArray.mk xp.toArray).toList = xp := Go.ByteArray.toList_eq _
  simp only at hb ⊢
  cases h : (xp == name) with
  | true =>
    have H := Lib.hid (show xp = name by simpa using h)
    go_enter Tryd.func21, Tryd.ntmps21
    go_wp2
    go_ret
    exact ⟨by rw [decide_eq_true H.out]; rfl, hb⟩
  | false =>
    have H := Lib.hid (show ¬ xp = name by simpa using h)
    go_enter Tryd.func21, Tryd.ntmps21
    go_wp2
    go_ret
    exact ⟨by rw [decide_eq_false H.out]; rfl, hb⟩

theorem predS_any (x : Txt) (name : Txt) (ba : Nat) (w : World) (hbn : w.cell? ⟨ba, 1, none⟩ = some (.string ⟨name.toArray⟩)) :
    Calls Tryd.prog 23 #[.string ⟨x.toArray⟩, .pointer (some ⟨ba, 0, none⟩)] w fun e w' => e = .returned (.bool (decide (x = name))) ∧ Below w.heap.size w w' := by
  have hlt : ba < w.heap.size := World.block_lt_of_cell? _ _ hbn
  have t2 : (ByteArray.mk name.toArray).toList = name := Go.ByteArray.toList_eq _
  have hb := Below.refl w.heap.size w
  have t1 : (ByteArray.mk x.toArray).toList = x := Go.ByteArray.toList_eq _
  cases h : (x == name) with
  | true =>
    have H := Lib.hid (show x = name by simpa using h)
    go_enter Tryd.func23, Tryd.ntmps23
    go_wp2
    go_ret
    exact ⟨by rw [decide_eq_true H.out]; rfl, hb⟩
  | false =>
    have H := Lib.hid (show ¬ x = name by simpa using h)
    go_enter Tryd.func23, Tryd.ntmps23
    go_wp2
    go_ret
    exact ⟨by rw [decide_eq_false H.out]; rfl, hb⟩

/-- What slices.IndexFunc gives. -/
def FoundAtE (es : List EV) (name : Txt) (r : Int) : Prop := (r = -1 ∧ ∀ i (hi : i < es.length), es[i].path ≠ name) ∨ (∃ k : Nat, ∃ hk : k < es.length, r = (k : Int) ∧ es[k].path = name ∧ ∀ i (hi : i < es.length), i < k → es[i].path ≠ name)
set_option maxRecDepth 100000 in
set_option maxHeartbeats 1000000 in
theorem idxE_any {w : World} {B : Nat} {A : Option Addr} {n c : Nat} {es : List EV} (h : EntsAt w B A n c es) (hB : B ≤ w.heap.size) (hn : n ≤ 1000000000) (name : Txt) (ba : Nat) (hbn : w.cell? ⟨ba, 1, none⟩ = some (.string ⟨name.toArray⟩)) :
    Calls Tryd.prog 38 #[.slice A n c, .func (.func 21) #[] #[.pointer (some ⟨ba, 0, none⟩)]] w fun e w' => ∃ r : Int, e = .returned (.int .i64 r) ∧ FoundAtE es name r ∧ Below w.heap.size w w' := by
  have hbl : ba < w.heap.size := World.block_lt_of_cell? _ _ hbn
  have hlen : es.length = n := h.len
  have H := Lib.hid h
  have HL := Lib.hid hlen
  clear h hlen
  go_enter Tryd.func38, Tryd.ntmps38
  go_wp2_with (fail)
  go_loopw [8] (fun i wr => ∃ k : Nat, k ≤ n ∧ i = .int .i64 (k : Int) ∧ Aside (∀ i (hi : i < es.length), i < k → es[i].path ≠ name) ∧ Aside (Below w.heap.size w wr)) (fun i _ => n - (intOf i).toNat)
  case atStart => exact ⟨0, Nat.zero_le _, rfl, fun i _ h => absurd h (Nat.not_lt_zero _), Below.refl _ _⟩
  case round =>
    obtain ⟨k, hk, rfl, hno, hb⟩ := hrel
    by_cases hlt : k < n
    · have hk1 : k + 1 ≤ n := hlt
      obtain ⟨b, off, rfl, hbB, hl, c0, c1, c2, _⟩ := (H.out.below (hb.out.mono hB)).at_ hlt
      have hp := predE_any es[k] name ba wr ((hb.out.cell (p := ⟨ba, 1, none⟩) hbl).trans hbn)
      by_cases hhit : es[k].path = name
      · have HA := Lib.hid (show FoundAtE es name (k : Int) from .inr ⟨k, hl, rfl, hhit, hno.out⟩)
        rw [decide_eq_true hhit] at hp
        clear hhit
        unfold evArr at hp
        generalize es[k] = x at *
        obtain ⟨xp, xk, xd, xA, xn, xc⟩ := x
        simp only at hp c0 c1 c2
        go_wp2_with (go_at_call 21; refine hp.mono ?_; clear hp; rintro e2 w2 ⟨rfl, hb2⟩)
        go_ret
        exact ⟨_, rfl, HA.out, hb.out.trans (hb2.mono hb.out.size)⟩
      · have HN := Lib.hid (show ∀ i (hi : i < es.length), i < k + 1 → es[i].path ≠ name from fun i hi hik => by
          rcases Nat.lt_or_ge i k with h1 | h1
          · exact hno.out i hi h1
          · obtain rfl : i = k := by omega
            exact hhit)
        rw [decide_eq_false hhit] at hp
        clear hhit
        unfold evArr at hp
        generalize es[k] = x at *
        obtain ⟨xp, xk, xd, xA, xn, xc⟩ := x
        simp only at hp c0 c1 c2
        go_wp2_with (go_at_call 21; refine hp.mono ?_; clear hp; rintro e2 w2 ⟨rfl, hb2⟩)
        exact ⟨⟨k + 1, hk1, by go_num, HN.out, hb.out.trans (hb2.mono hb.out.size)⟩, by clear HN hb2; simp [intOf]; omega⟩
    · have HF := Lib.hid (show FoundAtE es name (-1) from .inl ⟨rfl, fun i hi => hno.out i hi (by have := HL.out; omega)⟩)
      go_wp2_with (fail)
      go_ret
      exact ⟨_, rfl, HF.out, hb.out⟩

/-- What slices.IndexFunc gives. -/
def FoundAtS (l : List Txt) (name : Txt) (r : Int) : Prop := (r = -1 ∧ ∀ i (hi : i < l.length), l[i] ≠ name) ∨ (∃ k : Nat, ∃ hk : k < l.length, r = (k : Int) ∧ l[k] = name ∧ ∀ i (hi : i < l.length), i < k → l[i] ≠ name)
set_option maxRecDepth 100000 in
set_option maxHeartbeats 1000000 in
theorem idxS_any {w : World} {B : Nat} {A : Option Addr} {n c : Nat} {l : List Txt} (h : Slc w B 1 A n c (l.map encStr)) (hB : B ≤ w.heap.size) (hn : n ≤ 1000000000) (name : Txt) (ba : Nat) (hbn : w.cell? ⟨ba, 1, none⟩ = some (.string ⟨name.toArray⟩)) :
    Calls Tryd.prog 39 #[.slice A n c, .func (.func 23) #[] #[.pointer (some ⟨ba, 0, none⟩)]] w fun e w' => ∃ r : Int, e = .returned (.int .i64 r) ∧ FoundAtS l name r ∧ Below w.heap.size w w' := by
  have hbl : ba < w.heap.size := World.block_lt_of_cell? _ _ hbn
  have hlen : l.length = n := by have := h.len; simpa using this
  have H := Lib.hid h
  have HL := Lib.hid hlen
  clear h hlen
  go_enter Tryd.func39, Tryd.ntmps39
  go_wp2_with (fail)
  go_loopw [8] (fun i wr => ∃ k : Nat, k ≤ n ∧ i = .int .i64 (k : Int) ∧ Aside (∀ i (hi : i < l.length), i < k → l[i] ≠ name) ∧ Aside (Below w.heap.size w wr)) (fun i _ => n - (intOf i).toNat)
  case atStart => exact ⟨0, Nat.zero_le _, rfl, fun i _ h => absurd h (Nat.not_lt_zero _), Below.refl _ _⟩
  case round =>
    obtain ⟨k, hk, rfl, hno, hb⟩ := hrel
    by_cases hlt : k < n
    · have hk1 : k + 1 ≤ n := hlt
      obtain ⟨b, off, rfl, hbB, hc⟩ := (H.out.below (hb.out.mono hB)).at_ (show 0 < n by omega)
      have hl : k < l.length := by rw [HL.out]; exact hlt
      have c0 : wr.cell? ⟨b, off + k, none⟩ = some (.string ⟨l[k].toArray⟩) := hc k _ (by rw [List.getElem?_map, List.getElem?_eq_getElem hl]; rfl)
      clear hc
      have hp := predS_any l[k] name ba wr ((hb.out.cell (p := ⟨ba, 1, none⟩) hbl).trans hbn)
      by_cases hhit : l[k] = name
      · have HA := Lib.hid (show FoundAtS l name (k : Int) from .inr ⟨k, hl, rfl, hhit, hno.out⟩)
        rw [decide_eq_true hhit] at hp
        clear hhit
        generalize l[k] = x at *
        go_wp2_with (go_at_call 23; refine hp.mono ?_; clear hp; rintro e2 w2 ⟨rfl, hb2⟩)
        go_ret
        exact ⟨_, rfl, HA.out, hb.out.trans (hb2.mono hb.out.size)⟩
      · have HN := Lib.hid (show ∀ i (hi : i < l.length), i < k + 1 → l[i] ≠ name from fun i hi hik => by
          rcases Nat.lt_or_ge i k with h1 | h1
          · exact hno.out i hi h1
          · obtain rfl : i = k := by omega
            exact hhit)
        rw [decide_eq_false hhit] at hp
        clear hhit
        generalize l[k] = x at *
        go_wp2_with (go_at_call 23; refine hp.mono ?_; clear hp; rintro e2 w2 ⟨rfl, hb2⟩)
        exact ⟨⟨k + 1, hk1, by go_num, HN.out, hb.out.trans (hb2.mono hb.out.size)⟩, by clear HN hb2; simp [intOf]; omega⟩
    · have HF := Lib.hid (show FoundAtS l name (-1) from .inl ⟨rfl, fun i hi => hno.out i hi (by have := HL.out; omega)⟩)
      go_wp2_with (fail)
      go_ret
      exact ⟨_, rfl, HF.out, hb.out⟩

end Go.Proofs.YtibndaianhlcaaaDoor
namespace Go.Proofs.YtibndaianhlcaaaDoor
open Go.RowKit Go.Sort Go.Shelf
set_option linter.unusedVariables false
set_option linter.unusedSimpArgs false

theorem sets_rec {α : Type} (cells : α → List Value) (sz : Nat) (hsz : ∀ x, (cells x).length = sz) {R : List α} {cur : Array Value} {n c : Nat} (hc : cur.size = c * sz) (hn : R.length = n) (hnc : n ≤ c) (ht : cur.toList.take (n * sz) = R.flatMap cells) {i : Nat} (hi : i < n) (x : α) :
    (sets cur (i * sz) (cells x)).toList.take (n * sz) = (R.set i x).flatMap cells := by
  have hcl : cur.toList.length = c * sz := by rw [Array.length_toList, hc]
  have h1 : i * sz + sz ≤ n * sz := by rw [← Nat.succ_mul]; exact Nat.mul_le_mul_right _ hi
  have h2 : n * sz ≤ c * sz := Nat.mul_le_mul_right _ hnc
  have hfm := fun k => flatMap_take cells sz R k (fun x _ => hsz x)
  rw [sets_list _ _ _ (by rw [hsz, hc]; omega), hsz, List.set_eq_take_append_cons_drop, if_pos (by omega), List.flatMap_append, List.flatMap_cons, ← (hfm i).1, ← (hfm (i + 1)).2, ← ht, List.take_take, Nat.min_eq_left (by omega), List.append_assoc, List.take_append]
  have h3 : (cur.toList.take (i * sz)).length = i * sz := by rw [List.length_take]; omega
  rw [List.take_of_length_le (by omega), h3]
  congr 1
  rw [List.take_append, hsz, List.take_of_length_le (by rw [hsz]; omega)]
  congr 1
  rw [Nat.succ_mul, List.take_drop]
  congr 2
  omega
/-- The row while it is gone through: what is kept of the first j, then as it was from i on. -/
def midR {α : Type} (p : α → Bool) (l : List α) (i j : Nat) : List α := (l.take j).filter p ++ l.drop i
theorem midR_len {α : Type} (p : α → Bool) (l : List α) {i j : Nat} (h : ((l.take j).filter p).length = i) (hi : i ≤ l.length) : (midR p l i j).length = l.length := by
  unfold midR
  rw [List.length_append, h, List.length_drop]
  omega
theorem midR_get {α : Type} (p : α → Bool) (l : List α) {i j : Nat} (h : ((l.take j).filter p).length = i) (hij : i ≤ j) : (midR p l i j)[j]? = l[j]? := by
  unfold midR
  rw [List.getElem?_append_right (by omega), h, List.getElem?_drop]
  congr 1
  omega
theorem midR_keep {α : Type} (p : α → Bool) (l : List α) {i j : Nat} (h : ((l.take j).filter p).length = i) (hij : i ≤ j) (hj : j < l.length) (hp : p l[j] = true) : (midR p l i j).set i l[j] = midR p l (i + 1) (j + 1) ∧ ((l.take (j + 1)).filter p).length = i + 1 := by
  have e : (l.take (j + 1)).filter p = (l.take j).filter p ++ [l[j]] := by
    rw [List.take_succ_eq_append_getElem hj, List.filter_append, List.filter_cons, if_pos hp, List.filter_nil]
  refine ⟨?_, by rw [e, List.length_append, h]; rfl⟩
  unfold midR
  rw [e, List.set_append_right _ _ (by omega), h, Nat.sub_self, List.append_assoc]
  congr 1
  rw [List.drop_eq_getElem_cons (show i < l.length by omega)]
  rfl
theorem midR_drop {α : Type} (p : α → Bool) (l : List α) {j : Nat} (hj : j < l.length) (hp : p l[j] = false) : (l.take (j + 1)).filter p = (l.take j).filter p := by
  rw [List.take_succ_eq_append_getElem hj, List.filter_append, List.filter_cons, if_neg (by rw [hp]; decide), List.filter_nil, List.append_nil]
theorem midR_start {α : Type} (p : α → Bool) (l : List α) {k : Nat} (hk : k < l.length) (h1 : ∀ i (hi : i < l.length), i < k → p l[i] = true) (h2 : p l[k] = false) : midR p l k (k + 1) = l ∧ ((l.take (k + 1)).filter p).length = k := by
  have e : (l.take k).filter p = l.take k := by
    rw [List.filter_eq_self]
    intro x hx
    obtain ⟨i, hi, rfl⟩ := List.mem_iff_getElem.1 hx
    rw [List.length_take] at hi
    rw [List.getElem_take]
    exact h1 i (by omega) (by omega)
  unfold midR
  rw [midR_drop p l hk h2, e, List.take_append_drop]
  exact ⟨rfl, by rw [List.length_take]; omega⟩
theorem midR_end {α : Type} (p : α → Bool) (l : List α) {i : Nat} : (midR p l i l.length).take (l.filter p).length = l.filter p := by
  unfold midR
  rw [List.take_length, List.take_append_of_le_length (Nat.le_refl _), List.take_length]
/-- clear of what is left behind. -/
theorem run_clear_any {W : World} {T sl : TypeId} {z : Value} {sz : Nat} {g : Nat} {cur : Array Value} {off N c : Nat} (hu : Tryd.prog.underlying sl = some (.slice T)) (hz : ∀ w, (zeroValue T).run Tryd.prog w = .ok z w) (hzs : z.cells.size = sz) (h1 : ∀ v ∈ z.cells.toList, v.oneCell' = true) (hB : Blk W g T cur) (hs : off + N * sz ≤ cur.size) (hN : 0 < N) :
    ∃ vs : List Value, vs.length = N * sz ∧ ∀ ty, (Builtin.clear_ #[sl] ty #[.slice (some ⟨g, off, none⟩) N c]).run Tryd.prog W = .ok (.tuple #[]) (W.setCells g off vs) := by
  obtain ⟨vs, hvs⟩ : ∃ vs, vs = (Builtin.zeroCells z.cells N).toList := ⟨_, rfl⟩
  have hvl : vs.length = N * sz := by rw [hvs, Array.length_toList, size_zeroCells, hzs]
  have hone : ∀ v ∈ vs, v.oneCell' = true := by
    intro v hv
    rw [hvs] at hv
    simp only [Builtin.zeroCells, Array.toList_map, List.mem_map] at hv
    obtain ⟨i, hi, rfl⟩ := hv
    have hi2 : i < N * z.cells.size := by simpa using hi
    have hp : 0 < z.cells.size := by
      rcases Nat.eq_zero_or_pos z.cells.size with h0 | h0
      · rw [h0] at hi2; simp at hi2
      · exact h0
    have hm : i % z.cells.size < z.cells.size := Nat.mod_lt _ hp
    rw [getElem!_pos z.cells _ hm]
    exact h1 _ (by simp)
  have hst := run_storeCells_cells (P := Tryd.prog) g off vs 0 W (fun j hj => by rw [hB.cell, Array.getElem?_eq_getElem (by omega)]; rfl) (fun j hj => hB.frozen _) hone
  simp only [Nat.add_zero] at hst
  refine ⟨vs, hvl, fun ty => ?_⟩
  have e : (Builtin.zeroCells z.cells N).toList = vs := hvs.symm
  clear hvs hvl
  obtain ⟨m, rfl⟩ : ∃ m, N = m + 1 := ⟨N - 1, by omega⟩
  simp [Builtin.clear_, run_underlying hu, hz, e, hst]
end Go.Proofs.YtibndaianhlcaaaDoor
