/- machine.user: a text is looked for and put into a risen list. machine.user. machine.Reset. law20: copied. activate.started and activate.unit: the act that starts a unit, and a unit's lines. -/
import Derived.Test.YtibndaianhlcaaaGreatDoorPart16
import Derived.Test.YtibndaianhlcaaaGreatDoorPart10
import Derived.Test.YtibndaianhlcaaaGreatDoorPart14
import Derived.Test.YtibndaianhlcaaaGreatDoorPart4
namespace Go.Proofs.YtibndaianhlcaaaGreatDoor
open Go.RowKit Go.Sort Go.Shelf
set_option linter.unusedVariables false
set_option linter.unusedSimpArgs false

theorem bs_any {w : World} {B : Nat} {A : Option Addr} {n c : Nat} {l : List Txt} (h : Slc w B 1 A n c (l.map encStr)) (hr : Rises l) (hn : n ≤ 1000000000) (x : Txt) :
    Calls Tryz.prog 116 #[.slice A n c, .string ⟨x.toArray⟩] w fun e w' => e = .returned (.tuple #[.int .i64 (aheadN l x : Int), .bool (decide (l[aheadN l x]? = some x))]) ∧ ∃ q, w' = w.drewN q := by
  have hl : l.length = n := by have := h.len; simpa using this
  rcases Nat.eq_zero_or_pos n with h0 | h0
  · subst h0
    obtain rfl : l = [] := List.eq_nil_of_length_eq_zero hl
    refine (Any2.slices_BinarySearch_string_empty Tryz.bsS A c ⟨x.toArray⟩ w).mono ?_
    rintro e w' ⟨rfl, rfl⟩
    exact ⟨rfl, 0, rfl⟩
  · obtain ⟨b, off, rfl, _, hc⟩ := h.at_ h0
    have hless : ∀ t, Op.bytesLess (bytesOf (l.getD t x)).toList (ByteArray.mk x.toArray).toList = decide (l.getD t x < x) := fun t => less_str _ _
    have hget : ∀ t (ht : t < l.length), l.getD t x = l[t] := fun t ht => by simp [List.getD, ht]
    have hle := aheadN_le l x
    have hk : Lib.bsGo (fun t => Op.bytesLess (bytesOf (l.getD t x)).toList (ByteArray.mk x.toArray).toList) n 0 n = aheadN l x := by
      refine Lib.bsGo_spec _ (aheadN l x) (fun t ht => ?_) (fun t ht => ?_) n 0 n (by omega) (Nat.zero_le _) (by omega)
      · rw [hless, hget t (by omega)]
        exact decide_eq_true (aheadN_lt l x ht (by omega))
      · rw [hless]
        apply decide_eq_false
        by_cases htl : t < l.length
        · rw [hget t htl]
          rcases Nat.eq_or_lt_of_le ht with h1 | h1
          · subst h1
            exact aheadN_ge l x htl
          · intro h2
            exact aheadN_ge l x (by omega) (List.lt_trans (rises_get hr (by omega) htl h1) h2)
        · have : l.getD t x = x := by simp [List.getD, htl]
          rw [this]
          exact txt_irrefl x
    refine (Any2.slices_BinarySearch_string Tryz.bsS b off n c (fun t => bytesOf (l.getD t x)) ⟨x.toArray⟩ w (by omega) (fun j hj => ?_)).mono ?_
    · have hjl : j < l.length := by omega
      rw [hc j (encStr l[j]) (by rw [List.getElem?_map, List.getElem?_eq_getElem hjl]; rfl), hget j hjl]
      rfl
    · rintro e w' ⟨rfl, hq⟩
      refine ⟨?_, hq⟩
      rw [hk]
      have key : ∀ {p q : Bool}, p = q → Ending.returned (.tuple #[.int .i64 (aheadN l x : Int), .bool p]) = Ending.returned (.tuple #[.int .i64 (aheadN l x : Int), .bool q]) := fun h => by rw [h]
      apply key
      apply decide_eq_decide.2
      constructor
      · rintro ⟨h1, h2⟩
        rw [hget _ (by omega)] at h2
        rw [List.getElem?_eq_getElem (by omega)]
        exact congrArg some (bytesOf_inj h2)
      · intro h1
        obtain ⟨h2, h3⟩ := List.getElem?_eq_some_iff.1 h1
        exact ⟨by omega, by rw [hget _ h2, h3]; rfl⟩

theorem ins_shape {cs L : List Value} {x : Value} {i : Nat} (hi : i ≤ cs.length) (h1 : ∀ j, j < i → L[j]? = cs[j]?) (h2 : L[i]? = some x) (h3 : ∀ j, i ≤ j → j < cs.length → L[j + 1]? = cs[j]?) :
    L.take (cs.length + 1) = cs.take i ++ x :: cs.drop i := by
  apply List.ext_getElem?
  intro j
  have hlt : (cs.take i).length = i := by rw [List.length_take]; omega
  rw [List.getElem?_take]
  rcases Nat.lt_trichotomy j i with h | h | h
  · rw [if_pos (by omega), h1 j h, List.getElem?_append_left (by omega), List.getElem?_take, if_pos h]
  · subst h
    rw [if_pos (by omega), h2, List.getElem?_append_right (by omega), hlt, Nat.sub_self]
    rfl
  · obtain ⟨k, rfl⟩ : ∃ k, j = k + 1 := ⟨j - 1, by omega⟩
    rw [List.getElem?_append_right (by omega), hlt, show k + 1 - i = (k - i) + 1 by omega, List.getElem?_cons_succ, List.getElem?_drop, show i + (k - i) = k by omega]
    by_cases hk : k < cs.length
    · rw [if_pos (by omega), h3 k (by omega) hk]
    · rw [if_neg (by omega), List.getElem?_eq_none (by omega)]
theorem sets_get {cur : Array Value} {vs : List Value} {o : Nat} (h : o + vs.length ≤ cur.size) (j : Nat) : (sets cur o vs).toList[j]? = if j < o then cur.toList[j]? else if j < o + vs.length then vs[j - o]? else cur.toList[j]? := by
  have hcl : cur.toList.length = cur.size := Array.length_toList
  have h1 : (cur.toList.take o).length = o := by rw [List.length_take]; omega
  rw [sets_list _ _ _ h, List.append_assoc]
  by_cases a : j < o
  · rw [if_pos a, List.getElem?_append_left (by omega), List.getElem?_take, if_pos a]
  · rw [if_neg a, List.getElem?_append_right (by omega), h1]
    by_cases b : j < o + vs.length
    · rw [if_pos b, List.getElem?_append_left (by omega)]
    · rw [if_neg b, List.getElem?_append_right (by omega), List.getElem?_drop]
      congr 1
      omega
theorem ins_list1 {cs : List Value} {cur : Array Value} {x : Value} {i : Nat} (hi : i ≤ cs.length) (hs : cs.length + 1 ≤ cur.size) (ht : ∀ j, j < i → cur.toList[j]? = cs[j]?) :
    (sets (sets cur (i + 1) (cs.drop i)) i [x]).toList.take (cs.length + 1) = cs.take i ++ x :: cs.drop i := by
  have hd : (cs.drop i).length = cs.length - i := List.length_drop
  have e1 : i + 1 + (cs.drop i).length ≤ cur.size := by omega
  have e2 : i + [x].length ≤ (sets cur (i + 1) (cs.drop i)).size := by rw [sets_size]; simp; omega
  refine ins_shape hi (fun j hj => ?_) ?_ (fun j hj hjn => ?_)
  · rw [sets_get e2, if_pos hj, sets_get e1, if_pos (by omega)]
    exact ht j hj
  · rw [sets_get e2, if_neg (by omega), if_pos (by simp), Nat.sub_self]
    rfl
  · rw [sets_get e2, if_neg (by omega), if_neg (by simp; omega), sets_get e1, if_neg (by omega), if_pos (by omega), List.getElem?_drop]
    congr 1
    omega
theorem ins_list2 {cs : List Value} {cur : Array Value} {x : Value} {i : Nat} (hi : i ≤ cs.length) (hs : cs.length + 1 ≤ cur.size) (ht : ∀ j, j < i → cur.toList[j]? = cs[j]?) :
    (sets (sets cur i [x]) (i + 1) (cs.drop i)).toList.take (cs.length + 1) = cs.take i ++ x :: cs.drop i := by
  have hd : (cs.drop i).length = cs.length - i := List.length_drop
  have e1 : i + [x].length ≤ cur.size := by simp; omega
  have e2 : i + 1 + (cs.drop i).length ≤ (sets cur i [x]).size := by rw [sets_size]; omega
  refine ins_shape hi (fun j hj => ?_) ?_ (fun j hj hjn => ?_)
  · rw [sets_get e2, if_pos (by omega), sets_get e1, if_pos hj]
    exact ht j hj
  · rw [sets_get e2, if_pos (by omega), sets_get e1, if_neg (by omega), if_pos (by simp), Nat.sub_self]
    rfl
  · rw [sets_get e2, if_neg (by omega), if_pos (by omega), List.getElem?_drop]
    congr 1
    omega
/-- What slices.Insert of one text does. -/
def InsPost (w : World) (F : Nat → Prop) (A : Option Addr) (n c : Nat) (l : List Txt) (i : Nat) (x : Txt) : Ending → World → Prop := fun e w' => ∃ A' c', e = .returned (.slice A' (n + 1) c') ∧ Row w' (Fn F w w') 9 1 (.slice A' (n + 1) c') (n + 1) ((insA l i x).map encStr) ∧ w.grownBy w' (Value.slice A n c).ownBlock ∧
  (∀ k, (Value.slice A' (n + 1) c').ownBlock = some k → (Value.slice A n c).ownBlock = some k ∨ w.heap.size ≤ k)
theorem ins_map (l : List Txt) (i : Nat) (x : Txt) : (insA l i x).map encStr = (l.map encStr).take i ++ encStr x :: (l.map encStr).drop i := by simp [insA, List.map_take, List.map_drop]
/-- The row lies in a block that is new. -/
theorem ins_new {w w' : World} {F : Nat → Prop} {A : Option Addr} {n c cap : Nat} {l : List Txt} {i : Nat} {x : Txt} {cur : Array Value} (hi : i ≤ n) (hl : l.length = n) (hz : w.heap.size < w'.heap.size) (hB : Blk w' w.heap.size 9 cur) (h1 : n + 1 ≤ cap) (h2 : cap ≤ maxLen) (h3 : cur.size = cap) (h4 : cur.toList.take (n + 1) = (l.map encStr).take i ++ encStr x :: (l.map encStr).drop i)
    (hg : w.grownBy w' (Value.slice A n c).ownBlock) : InsPost w F A n c l i x (.returned (.slice (some ⟨w.heap.size, 0, none⟩) (n + 1) cap)) w' := by
  refine ⟨_, _, rfl, ⟨⟨by rw [List.length_map, ins_length, hl]; omega, .inr ⟨w.heap.size, cap, cur, rfl, Nat.zero_le _, hB, h1, h2, by omega, ?_⟩⟩, fun k hk => ?_⟩, hg, fun k hk => ?_⟩
  · rw [Nat.mul_one, h4, ins_map]
  · injection hk with hk
    subst hk
    exact .inr ⟨Nat.le_refl _, hz⟩
  · injection hk with hk
    subst hk
    exact .inr (Nat.le_refl _)
theorem ins_old {w w' : World} {F : Nat → Prop} {g n c : Nat} {l : List Txt} {i : Nat} {x : Txt} {cur : Array Value} (hF : F g) (hl : l.length = n) (hB : Blk w' g 9 cur) (h1 : n + 1 ≤ c) (h2 : c ≤ maxLen) (h3 : cur.size = c) (h4 : cur.toList.take (n + 1) = (l.map encStr).take i ++ encStr x :: (l.map encStr).drop i)
    (hg : w.grownBy w' (some g)) : InsPost w F (some ⟨g, 0, none⟩) n c l i x (.returned (.slice (some ⟨g, 0, none⟩) (n + 1) c)) w' := by
  refine ⟨_, _, rfl, ⟨⟨by rw [List.length_map, ins_length, hl]; omega, .inr ⟨g, c, cur, rfl, Nat.zero_le _, hB, h1, h2, by omega, ?_⟩⟩, fun k hk => ?_⟩, hg, fun k hk => .inl hk⟩
  · rw [Nat.mul_one, h4, ins_map]
  · injection hk with hk
    subst hk
    exact .inl hF
theorem insS_any {w : World} {F : Nat → Prop} {A : Option Addr} {n c : Nat} {l : List Txt} (h : Row w F 9 1 (.slice A n c) n (l.map encStr)) {i : Nat} (hi : i ≤ n) (hn : n ≤ 1000000000) (x : Txt) {vb : Nat} (hv : Blk w vb 9 #[encStr x]) (hvF : ¬ F vb) :
    Calls Tryz.prog 117 #[.slice A n c, .int .i64 (i : Int), .slice (some ⟨vb, 0, none⟩) 1 1] w (InsPost w F A n c l i x) := by
  have hl : l.length = n := by have := h.own.1; simpa using this
  have hcl : (l.map encStr).length = n := by rw [List.length_map, hl]
  have hvs : ∀ j v, [encStr x][j]? = some v → w.cell? ⟨vb, 0 + j, none⟩ = some v := fun j v hj => by
    cases j with
    | zero => rw [hv.cell 0]; simpa using hj
    | succ j => simp at hj
  have h1v : ∀ v ∈ [encStr x], v.oneCell' = true := fun v hv => by rw [List.mem_singleton.1 hv]; rfl
  have h1c := strs_one20 l
  have hbig : (n + 1) * 16 ≤ 140737488355328 := by omega
  have hgc := grownCap_ge w (n + 1) c 9
  have hgm : grownCap w (n + 1) c 9 ≤ maxLen := grownCap_le_maxLen w (n + 1) c _ (by unfold maxLen; omega)
  have hz1 : (Value.string (⟨#[]⟩ : ByteArray)).cells.size = 1 := rfl
  rcases Nat.lt_or_ge c (n + 1) with hroom | hroom
  · -- it grows
    have hnc : n ≤ c := by
      rcases h.own.2 with ⟨e, h0⟩ | ⟨g, cap, cur, e, _, _, h3, _⟩
      · omega
      · injection e with _ _ e3; subst e3; exact h3
    rcases Nat.eq_or_lt_of_le hi with hin | hin
    · subst hin
      refine (Any2.slices_Insert_string_end_grow Tryz.insS A i c vb 0 1 1 (l.map encStr) [encStr x] w (by decide) hnc hroom hbig hcl rfl (fun e => ?_) (fun a e j v hj => ?_) hvs h1v).mono ?_
      · rcases h.own.2 with ⟨_, h0⟩ | ⟨g, cap, cur, e1, _⟩
        · exact h0
        · injection e1 with e1; rw [e] at e1; cases e1
      · obtain ⟨A', c', e1, hs⟩ := h.slc
        injection e1 with e1 _ e3
        subst e1 e3
        have hi0 : 0 < i := by have := (List.getElem?_eq_some_iff.1 hj).1; omega
        obtain ⟨b, off, e2, _, hc⟩ := hs.at_ hi0
        rw [e] at e2
        injection e2 with e2
        subst e2
        rw [addr_of_add]
        exact hc j v hj
      · rintro e w' ⟨he, hw⟩
        have hw : w' = w.drew.alloc (.cells ((l.map encStr ++ [encStr x]).toArray ++ Builtin.zeroCells (Value.string ⟨#[]⟩).cells (grownCap w (i + 1) c 9 - (i + 1))) 9) := hw
        have he : e = .returned (.slice (some ⟨w.heap.size, 0, none⟩) (i + 1) (grownCap w (i + 1) c 9)) := he
        subst hw he
        refine ins_new (Nat.le_refl _) hl (by simp) (Blk.new w.drew _ _) hgc hgm (by simp only [Array.size_append, List.size_toArray, size_zeroCells, hz1, List.length_append, hcl, List.length_cons, List.length_nil]; omega) ?_ ⟨rfl, rfl, rfl, by simp, fun k hk _ => Below.heap_alloc w.drew _ k hk⟩
        rw [Array.toList_append, List.take_append_of_le_length (by simp [hl])]
        rw [List.take_of_length_le (by simp [hl]), List.take_of_length_le (by omega), List.drop_eq_nil_of_le (by omega)]
    · rcases h.own.2 with ⟨_, h0⟩ | ⟨g, cap, cur, e, hb0, hb, hb1, hb2, hb3, hb4⟩
      · omega
      injection e with e1 _ e3
      subst e1 e3
      have hcs : ∀ j v, (l.map encStr)[j]? = some v → w.cell? ⟨g, 0 + j, none⟩ = some v := fun j v hj => by
        have hB : Blk w g 9 cur := hb
        rw [hB.cell, Nat.zero_add, ← Array.getElem?_toList]
        rw [← hb4, List.getElem?_take] at hj
        split at hj
        · exact hj
        · cases hj
      refine (Any2.slices_Insert_string_grow Tryz.insS g 0 n c i vb 0 1 1 (l.map encStr) [encStr x] w hin (by decide) hnc hroom hbig hcl rfl hcs hvs h1c h1v).mono ?_
      rintro e w' ⟨he, hw⟩
      have he : e = .returned (.slice (some ⟨w.heap.size, 0, none⟩) (n + 1) (grownCap w (n + 1) c 9)) := he
      obtain ⟨C0, hC0⟩ : ∃ C0 : Array Value, C0 = ((l.map encStr).take i).toArray ++ Builtin.zeroCells (Value.string ⟨#[]⟩).cells (n + 1 - i) ++ Builtin.zeroCells (Value.string ⟨#[]⟩).cells (grownCap w (n + 1) c 9 - (n + 1)) := ⟨_, rfl⟩
      have hw : w' = (((w.alloc (.cells C0 9)).drew.setCells w.heap.size i [encStr x]).drew).setCells w.heap.size (i + 1) ((l.map encStr).drop i) := by rw [hC0]; exact hw
      have hCs : C0.size = grownCap w (n + 1) c 9 := by
        rw [hC0]
        simp only [Array.size_append, List.size_toArray, size_zeroCells, hz1, List.length_take, hcl]
        omega
      have hCt : ∀ j, j < i → C0.toList[j]? = (l.map encStr)[j]? := fun j hj => by
        rw [hC0, Array.toList_append, Array.toList_append, List.append_assoc, List.getElem?_append_left (by simp [hl]; omega)]
        simp only [List.getElem?_take, if_pos hj]
      have hB1 := Blk.setCells ((l.map encStr).drop i) (i + 1) ((Blk.setCells [encStr x] i ((Blk.new w 9 C0).drew)).drew)
      rw [← hw] at hB1
      have hgb : (w.alloc (.cells C0 9)).grownBy w' (some w.heap.size) := by
        rw [hw]
        have g1 := grownBy_setCells (g := w.heap.size) (a := w.alloc (.cells C0 9)) [encStr x] i (w := (w.alloc (.cells C0 9)).drew) ⟨rfl, rfl, rfl, Nat.le_refl _, fun _ _ _ => rfl⟩
        exact grownBy_setCells _ _ ⟨g1.os, g1.tape, g1.output, g1.size, g1.block⟩
      have hsz := hgb.size
      rw [World.size_alloc] at hsz
      subst he
      refine ins_new hi hl (by omega) hB1 hgc hgm (by rw [sets_size, sets_size, hCs]) ?_ ⟨hgb.os, hgb.tape, hgb.output, by omega, fun k hk _ => by rw [hgb.block k (by simp; omega) (by intro e9; injection e9 with e9; omega), Below.heap_alloc w _ k hk]⟩
      have := ins_list2 (cs := l.map encStr) (cur := C0) (x := encStr x) (i := i) (by omega) (by omega) hCt
      rwa [hcl] at this
  · rcases h.own.2 with ⟨e, h0⟩ | ⟨g, cap, cur, e, hb0, hb, hb1, hb2, hb3, hb4⟩
    · injection e with _ _ e3; omega
    injection e with e1 _ e3
    subst e1 e3
    have hB : Blk w g 9 cur := hb
    have hFg : F g := h.foot g rfl
    have hct : ∀ j, j < n → cur.toList[j]? = (l.map encStr)[j]? := fun j hj => by rw [← hb4, List.getElem?_take, if_pos (by omega)]
    have hc63 : c ≤ 9223372036854775807 := by unfold maxLen at hb2; omega
    rcases Nat.eq_or_lt_of_le hi with hin | hin
    · subst hin
      refine (Any2.slices_Insert_string_end_room Tryz.insS g 0 i c vb 0 1 1 [encStr x] w (by decide) hroom hc63 rfl (fun j hj => by rw [hB.cell, Array.getElem?_eq_getElem (by omega)]; rfl) (fun j hj => hB.frozen _) hvs h1v).mono ?_
      rintro e w' ⟨he, hw⟩
      subst he hw
      refine ins_old hFg hl (Blk.setCells _ _ hB) hroom hb2 (by rw [sets_size]; omega) ?_ (grownBy_setCells _ _ (World.grownBy.refl _ _))
      have := ins_list2 (cs := l.map encStr) (cur := cur) (x := encStr x) (i := i) (by omega) (by omega) hct
      rw [hcl, List.drop_eq_nil_of_le (by omega : (l.map encStr).length ≤ i)] at this
      rw [Nat.zero_add, List.drop_eq_nil_of_le (by omega : (l.map encStr).length ≤ i)]
      exact this
    · have hcs : ∀ j v, (l.map encStr)[j]? = some v → w.cell? ⟨g, 0 + j, none⟩ = some v := fun j v hj => by
        rw [hB.cell, Nat.zero_add, ← Array.getElem?_toList, hct j (by have := (List.getElem?_eq_some_iff.1 hj).1; omega)]
        exact hj
      refine (Any2.slices_Insert_string_shift Tryz.insS g 0 n c i vb 0 1 1 (l.map encStr) [encStr x] w hin (by decide) hroom hc63 (by rintro rfl; exact hvF hFg) hcl rfl hcs (fun j hj => by rw [hB.cell, Array.getElem?_eq_getElem (by omega)]; rfl) (fun j hj => hB.frozen _) hvs h1c h1v 9 9 1 cur.size (by unfold World.shape?; rw [show w.heap[vb]? = _ from hv]; rfl) (by unfold World.shape?; rw [hb]) (by omega) (hv.frozen _) (hv.frozen _)).mono ?_
      rintro e w' ⟨he, hw⟩
      subst he hw
      refine ins_old hFg hl (Blk.setCells _ _ (Blk.setCells _ _ hB.drew)) hroom hb2 (by rw [sets_size, sets_size]; omega) ?_ (grownBy_setCells _ _ (grownBy_setCells _ _ ⟨rfl, rfl, rfl, Nat.le_refl _, fun _ _ _ => rfl⟩))
      have := ins_list1 (cs := l.map encStr) (cur := cur) (x := encStr x) (i := i) (by omega) (by omega) (fun j hj => hct j (by omega))
      rw [hcl] at this
      rw [Nat.zero_add, Nat.zero_add]
      exact this
end Go.Proofs.YtibndaianhlcaaaGreatDoor
namespace Go.Proofs.YtibndaianhlcaaaGreatDoor
open Go.RowKit Go.Sort Go.Shelf
set_option linter.unusedVariables false
set_option linter.unusedSimpArgs false

section
variable {w w' : World} {F : Nat → Prop} {g : Nat} {s : Mach} {fA : Option Addr} {fn fc : Nat} {es : List EV} {uA : Option Addr} {un uc : Nat} {nA : Option Addr} {nn nc : Nat} {us : List SV} {pA : Option Addr} {pn pc : Nat}
/-- Its users turn. -/
theorem MachV.setUsers (h : MachV w F g s fA fn fc es uA un uc nA nn nc us pA pn pc) {G : Nat → Prop} (hg : w.grownBy w' (Value.slice uA un uc).ownBlock) (hF : ∀ k, F k → G k) {uA' : Option Addr} {un' uc' : Nat} {l : List Txt}
    (hu : Row w' G 9 1 (.slice uA' un' uc') un' (l.map encStr)) (hnew : ∀ k, (Value.slice uA' un' uc').ownBlock = some k → (Value.slice uA un uc).ownBlock = some k ∨ w.heap.size ≤ k) :
    MachV (w'.setCell ⟨g, 1, none⟩ (.slice uA' un' uc')) G g ⟨s.files, l, s.units, s.plan⟩ fA fn fc es uA' un' uc' nA nn nc us pA pn pc := by
  have ht := row_typed h.users
  have k1 : ∀ {e : TypeId}, e ≠ 9 → _ := fun {e} he => grown_other hg ht (e := e) he
  have hB : Blk w' g 53 _ := (k1 (by decide) g _ (0, 0) h.blk).trans h.blk
  have k2 : ∀ {e : TypeId}, e ≠ 53 → _ := fun {e} he => set_other hB (e := e) he 1 (.slice uA' un' uc')
  have hs : w'.heap.size ≤ (w'.setCell ⟨g, 1, none⟩ (.slice uA' un' uc')).heap.size := by simp [World.setCell]
  have str : ∀ {v : Value} {n : Nat} {xs : List Value}, Row w F 9 1 v n xs → (∀ k, (Value.slice uA un uc).ownBlock = some k → v.ownBlock ≠ some k) → Row (w'.setCell ⟨g, 1, none⟩ (.slice uA' un' uc')) G 9 1 v n xs := fun hr hsep =>
    ((hr.kept (fun k hk => hg.block k (hr.own.lt k hk).2 (fun e => hsep k e.symm hk)) hr.foot).other (k2 (by decide))).wide hF
  refine ⟨hB.set_ 1 _, hF _ h.foot, ((h.files.other (k1 (by decide))).other (k2 (by decide))).wide hF, h.ents, fun e he => (((h.data e he).other (k1 (by decide))).other (k2 (by decide))).wide hF, hu.other (k2 (by decide)),
    ((h.units.other (k1 (by decide))).other (k2 (by decide))).wide hF, h.srvs, fun u hu' => str (h.req u hu') (fun k hk => (h.sep u hu' k hk).1), fun u hu' => str (h.aft u hu') (fun k hk => (h.sep u hu' k hk).2), ((h.plan.other hg.size (k1 (by decide))).other hs (k2 (by decide))).wide hF, fun u hu' k hk => ?_⟩
  rcases hnew k hk with h1 | h1
  · exact h.sep u hu' k h1
  · exact ⟨fun e => by have := ((h.req u hu').own.lt k e).2; omega, fun e => by have := ((h.aft u hu').own.lt k e).2; omega⟩
theorem MachV.kept1 (h : MachV w F g s fA fn fc es uA un uc nA nn nc us pA pn pc) (hg : w.grownBy w' (Value.slice uA un uc).ownBlock) : w'.cell? ⟨g, 1, none⟩ = some (.slice uA un uc) ∧ w'.frozen? ⟨g, 1, none⟩ = false := by
  have hk := grown_other hg (row_typed h.users) (e := 53) (by decide) g _ (0, 0) h.blk
  have hB : Blk w' g 53 _ := hk.trans h.blk
  exact ⟨hB.cell 1, hB.frozen 1⟩
end
set_option maxRecDepth 100000 in
set_option maxHeartbeats 2000000 in
theorem user_any {w : World} {F : Nat → Prop} {g : Nat} {s : Mach} (h : MachAt w F g s) (hr : Rises s.users) (hn : s.users.length ≤ 1000000) (name : Txt) (hname : name.length ≤ 1000000000) (hFl : ∀ k, F k → k < w.heap.size) :
    Calls Tryz.prog 89 #[.pointer (some ⟨g, 0, none⟩), .string ⟨name.toArray⟩] w (MachPost w F g (doUser s name)) := by
  obtain ⟨fA, fn, fc, es, uA, un, uc, nA, nn, nc, us, pA, pn, pc, h⟩ := h
  have hnm := name_any ⟨name.toArray⟩ w (by show name.toArray.size ≤ maxLen; rw [List.size_toArray]; unfold maxLen; omega)
  have ht : (ByteArray.mk name.toArray).data.toList = name := rfl
  rw [ht] at hnm
  have hun := h.ulen
  have H := Lib.hid h
  have fin : Hid (∀ k w', Below w.heap.size w w' → MachPost w F g (s, k) (.returned (.int .i64 k)) w') := fun k w' hb => ⟨rfl, ⟨fA, fn, fc, es, uA, un, uc, nA, nn, nc, us, pA, pn, pc, (H.out.below hb).wide (fn_wide _ _ _)⟩, (Step.of_below hb F).fn⟩
  have HFL := Lib.hid hFl
  have HR := Lib.hid hr
  have HN := Lib.hid hn
  have HUN := Lib.hid hun
  clear ht hFl hr
  cases hm : nameB name with
  | false =>
    rw [hm] at hnm
    have HX := Lib.hid (show doUser s name = (s, 70) by unfold doUser; rw [if_neg (by rw [hm]; decide)])
    clear hm h hun hn
    go_enter Tryz.func89, Tryz.ntmps89
    go_wp2_with (go_at_call 39; refine hnm.mono ?_; clear hnm; rintro e w2 ⟨rfl, hb2⟩)
    go_ret
    rw [HX.out]
    exact fin.out 70 _ hb2
  | true =>
    rw [hm] at hnm
    obtain ⟨k, hk⟩ : ∃ k, k = aheadN s.users name := ⟨_, rfl⟩
    have HK := Lib.hid hk
    have hkn : k ≤ un := by rw [hk]; have := aheadN_le s.users name; omega
    have hbs : Hid (∀ {W : World}, Below w.heap.size w W → Calls Tryz.prog 116 #[.slice uA un uc, .string ⟨name.toArray⟩] W fun e w' => e = .returned (.tuple #[.int .i64 (k : Int), .bool (decide (s.users[k]? = some name))]) ∧ ∃ q, w' = W.drewN q) := fun hb => by
      rw [hk]; exact bs_any ((H.out.users.slc').below hb) HR.out (by have := HN.out; have := HUN.out; omega) name
    have HM := Lib.hid hm
    cases hat : decide (s.users[k]? = some name) with
    | true =>
      rw [hat] at hbs
      have HX := Lib.hid (show doUser s name = (s, 0) by unfold doUser; rw [if_pos HM.out, if_pos (by rw [← HK.out]; exact of_decide_eq_true hat)])
      clear hm h hun hn hat hk
      go_enter Tryz.func89, Tryz.ntmps89
      go_wp2_with (first
        | (go_at_call 39; refine hnm.mono ?_; clear hnm; rintro e w2 ⟨rfl, hb2⟩; have m1 := (H.out.below hb2).facts.2.1; have HB2 := Lib.hid hb2; clear hb2)
        | (go_at_call 116; refine (hbs.out HB2.out).mono ?_; rintro e w3 ⟨rfl, q, rfl⟩))
      go_ret
      rw [HX.out]
      exact fin.out 0 _ (bel_drewN HB2.out q)
    | false =>
      rw [hat] at hbs
      have HAT := Lib.hid (of_decide_eq_false hat)
      clear hat
      by_cases h16 : un = 16
      · have HX := Lib.hid (show doUser s name = (s, 70) by unfold doUser; rw [if_pos HM.out, if_neg (by rw [← HK.out]; exact HAT.out), if_pos (by omega)])
        have h16b : ((un : Int) == 16) = true := by rw [h16]; rfl
        clear hm h hun hn hk h16
        go_enter Tryz.func89, Tryz.ntmps89
        go_wp2_with (first
          | (go_at_call 39; refine hnm.mono ?_; clear hnm; rintro e w2 ⟨rfl, hb2⟩; have m1 := (H.out.below hb2).facts.2.1; have HB2 := Lib.hid hb2; clear hb2)
          | (go_at_call 116; refine (hbs.out HB2.out).mono ?_; rintro e w3 ⟨rfl, q, rfl⟩))
        go_ret
        rw [HX.out]
        exact fin.out 70 _ (bel_drewN HB2.out q)
      · have HX := Lib.hid (show doUser s name = (⟨s.files, insA s.users k name, s.units, s.plan⟩, 0) by unfold doUser; rw [if_pos HM.out, if_neg (by rw [← HK.out]; exact HAT.out), if_neg (by omega), ← HK.out])
        have h16b : ((un : Int) == 16) = false := by rw [beq_eq_false_iff_ne]; omega
        have hun9 : un ≤ 1000000000 := by omega
        have hins : Hid (∀ {W : World}, Below w.heap.size w W → Calls Tryz.prog 117 #[.slice uA un uc, .int .i64 (k : Int), .slice (some ⟨W.heap.size, 0, none⟩) 1 1] (W.alloc (.cells #[.string ⟨name.toArray⟩] 9)) (InsPost (W.alloc (.cells #[.string ⟨name.toArray⟩] 9)) F uA un uc s.users k name)) := fun {W} hb =>
          insS_any (w := W.alloc (.cells #[.string ⟨name.toArray⟩] 9)) (H.out.below (hb.alloc hb.size _)).users hkn hun9 name (Blk.new W _ _) (fun h9 => by have := HFL.out _ h9; have := hb.size; omega)
        clear hm h hun hn hk
        go_enter Tryz.func89, Tryz.ntmps89
        go_wp2_with (first
          | (go_at_call 39; refine hnm.mono ?_; clear hnm; rintro e w2 ⟨rfl, hb2⟩; have m1 := (H.out.below hb2).facts.2.1; have hg2 : g < w2.heap.size := Nat.lt_of_lt_of_le H.out.blk.lt hb2.size; have HB2 := Lib.hid hb2; clear hb2)
          | (go_at_call 116; refine (hbs.out HB2.out).mono ?_; rintro e w3 ⟨rfl, q, rfl⟩; have hi9 := hins.out (bel_drewN HB2.out q))
          | (go_at_call 117; go_loud (refine hi9.mono ?_; clear hi9; rintro e w4 ⟨A4, c4, rfl, hR4, hg4, hn4⟩; have hbx : Below w.heap.size w ((w2.drewN q).alloc (.cells #[.string ⟨name.toArray⟩] 9)) := (bel_drewN HB2.out q).alloc HB2.out.size _; have hv4 := ((H.out.below hbx).setUsers (w' := w4) hg4 (fn_wide _ _ _) hR4 hn4); have hk4 := (H.out.below hbx).kept1 hg4; obtain ⟨m4, f4⟩ := hk4; have HV4 := Lib.hid hv4; have HG4 := Lib.hid hg4; have HBX := Lib.hid hbx; clear hR4 hg4 hn4 hv4 hbx)))
        go_ret
        rw [HX.out]
        have hst := ((Step.of_below HBX.out F).grown HG4.out (fun k hk => .inl (H.out.users.foot k hk))).setCell (p := ⟨g, 1, none⟩) (.inl H.out.foot) (.slice A4 (un + 1) c4)
        have hsz : (w4.setCell ⟨g, 1, none⟩ (.slice A4 (un + 1) c4)).heap.size = w4.heap.size := by simp [World.setCell]
        refine ⟨rfl, ⟨_, _, _, _, _, _, _, _, _, _, _, _, _, _, HV4.out.wide fun k hk => ?_⟩, hst.fn⟩
        have h9 := HBX.out.size
        unfold Fn
        rw [hsz]
        rcases hk with hk | hk
        · exact .inl hk
        · exact .inr ⟨by omega, hk.2⟩
end Go.Proofs.YtibndaianhlcaaaGreatDoor
namespace Go.Proofs.YtibndaianhlcaaaGreatDoor
open Go.RowKit Go.Sort Go.Shelf
set_option linter.unusedVariables false
set_option linter.unusedSimpArgs false

end Go.Proofs.YtibndaianhlcaaaGreatDoor
namespace Go.Proofs.YtibndaianhlcaaaGreatDoor
open Go.RowKit Go.Sort Go.Shelf
set_option linter.unusedVariables false
set_option linter.unusedSimpArgs false

/-- A step as memory has it. -/
structure AV where
  kind : Int
  name : Txt
  file : EV
  unit : SV
def AV.act (a : AV) : ActP := ⟨a.kind, a.name, a.file.ent, a.unit.srv⟩
def avArr (a : AV) : Array Value := #[.int .i64 a.kind, .string ⟨a.name.toArray⟩, .string ⟨a.file.path.toArray⟩, .int .i64 a.file.kind, .slice a.file.A a.file.n a.file.c, .string ⟨a.unit.name.toArray⟩, .string ⟨a.unit.start.toArray⟩, .slice a.unit.A a.unit.n a.unit.c, .slice a.unit.A2 a.unit.n2 a.unit.c2]
structure ActAt (w : World) (B : Nat) (a : AV) : Prop where
  data : Slc w B 1 a.file.A a.file.n a.file.c (a.file.data.map bv)
  req : Slc w B 1 a.unit.A a.unit.n a.unit.c (a.unit.req.map encStr)
  aft : Slc w B 1 a.unit.A2 a.unit.n2 a.unit.c2 (a.unit.aft.map encStr)
theorem ActAt.below {w w' : World} {B : Nat} {a : AV} (h : ActAt w B a) (hb : Below B w w') : ActAt w' B a := ⟨h.data.below hb, h.req.below hb, h.aft.below hb⟩
/-- A step in blocks of the call's own. -/
structure OwnAct (w : World) (F : Nat → Prop) (a : AV) : Prop where
  data : Row w F 5 1 (.slice a.file.A a.file.n a.file.c) a.file.n (a.file.data.map bv)
  req : Row w F 9 1 (.slice a.unit.A a.unit.n a.unit.c) a.unit.n (a.unit.req.map encStr)
  aft : Row w F 9 1 (.slice a.unit.A2 a.unit.n2 a.unit.c2) a.unit.n2 (a.unit.aft.map encStr)
  ne : ∀ k, (Value.slice a.unit.A a.unit.n a.unit.c).ownBlock = some k → (Value.slice a.unit.A2 a.unit.n2 a.unit.c2).ownBlock ≠ some k
theorem OwnAct.at_ {w : World} {F : Nat → Prop} {a : AV} (h : OwnAct w F a) : ActAt w w.heap.size a := ⟨h.data.slc', h.req.slc', h.aft.slc'⟩
theorem Row.set_ {w : World} {F : Nat → Prop} {e : TypeId} {sz : Nat} {v : Value} {n : Nat} {xs : List Value} (h : Row w F e sz v n xs) {p : Addr} (hp : ¬ F p.block) (u : Value) : Row (w.setCell p u) F e sz v n xs :=
  h.kept (fun k hk => Below.heap_setCell w p u k (by rintro rfl; exact hp (h.foot _ hk))) h.foot
theorem Row.setCells {F : Nat → Prop} {e : TypeId} {sz : Nat} {v : Value} {n : Nat} {xs : List Value} {g : Nat} (hp : ¬ F g) : ∀ (vs : List Value) (o : Nat) {w : World}, Row w F e sz v n xs → Row (w.setCells g o vs) F e sz v n xs
  | [], _, _, h => h
  | u :: r, o, _, h => Row.setCells hp r (o + 1) (h.set_ (p := ⟨g, o, none⟩) hp u)
theorem Row.belo {w w' : World} {F : Nat → Prop} {e : TypeId} {sz : Nat} {v : Value} {n : Nat} {xs : List Value} (h : Row w F e sz v n xs) (hb : Below w.heap.size w w') : Row w' F e sz v n xs :=
  h.kept (fun k hk => hb.block k (h.own.lt k hk).2) h.foot
structure CopiedB (W : World) (A : Option Addr) (n c : Nat) (l : List UInt8) (g c' : Nat) (w' : World) : Prop where
  run : (Builtin.append_ #[33, 33] 33 #[.slice (some ⟨W.heap.size, 0, none⟩) 0 0, .slice A n c]).run Tryz.prog (W.alloc (.cells #[] 5)) = .ok (.slice (some ⟨g, 0, none⟩) n c') w'
  own : w'.ownsRow W.heap.size 5 1 (.slice (some ⟨g, 0, none⟩) n c') n (l.map bv)
  ge : W.heap.size ≤ g
  lt : g < w'.heap.size
  bel : Below W.heap.size W w'
theorem bytes_copy {W : World} {B : Nat} {A : Option Addr} {n c : Nat} {l : List UInt8} (h : Slc W B 1 A n c (l.map bv)) (hB : B ≤ W.heap.size) (hn : n ≤ 1000000000) : ∃ g c' w', CopiedB W A n c l g c' w' := by
  have ho := empty_own W W.heap.size (Nat.le_refl _)
  have hb1 : Below W.heap.size W (W.alloc (.cells #[] 5)) := (Below.refl _ W).alloc (Nat.le_refl _) _
  obtain ⟨A3, c3, w3, r3, o3, g3, hv3⟩ := append_bytes (W.alloc (.cells #[] 5)) W.heap.size _ 0 [] ho B A n c l (h.below (hb1.mono hB)) (by omega) (by simp)
  rw [Nat.zero_add] at r3 o3
  rw [List.nil_append] at o3
  have hb3 := grown_below hb1 ho (by simp) g3
  rcases o3.2 with ⟨hnil, h0⟩ | ⟨gd, cap, cur, e1, e2, e3, _⟩
  · exfalso
    injection hnil with e1 e2 e3
    subst e1
    rcases hv3 with hv3 | hv3 <;> simp [Value.ownBlock] at hv3
  · injection e1 with e1
    subst e1
    exact ⟨gd, c3, w3, r3, o3, e2, (Array.getElem?_eq_some_iff.1 e3).1, hb3⟩
def ActLens (a : AV) : Prop := a.file.n ≤ 1000000000 ∧ a.unit.n ≤ 1000000000 ∧ a.unit.n2 ≤ 1000000000
end Go.Proofs.YtibndaianhlcaaaGreatDoor
namespace Go.Proofs.YtibndaianhlcaaaGreatDoor
open Go.RowKit Go.Sort Go.Shelf
open Go.WideShapes (bytes_inj)
set_option linter.unusedVariables false
set_option linter.unusedSimpArgs false

def ev0 : EV := ⟨[], 0, [], none, 0, 0⟩
def sv0 : SV := ⟨[], [], [], none, 0, 0, [], none, 0, 0⟩
/-- A unit whose texts are those of an argument. -/
structure SmallU (u : SV) : Prop where
  name : u.name.length ≤ 1048576
  start : u.start.length ≤ 1048576
  texts : ∀ t ∈ u.req ++ u.aft, t.length ≤ 1048576
  n : u.n ≤ 1048576
  n2 : u.n2 ≤ 1048576
/-- Lines of some words. -/
def linesW (p : Txt) (l : List Txt) : Txt := l.flatMap (fun n => p ++ n ++ [10])
theorem linesW_succ (p : Txt) (l : List Txt) {k : Nat} (hk : k < l.length) : linesW p (l.take (k + 1)) = linesW p (l.take k) ++ (p ++ (l[k] ++ [10])) := by
  unfold linesW
  rw [List.take_succ_eq_append_getElem hk, List.flatMap_append, List.flatMap_cons, List.flatMap_nil, List.append_nil, List.append_assoc p]
theorem linesW_le (p : Txt) : ∀ (l : List Txt), (∀ t ∈ l, t.length ≤ 1048576) → (linesW p l).length ≤ l.length * (p.length + 1048577)
  | [], _ => by simp [linesW]
  | a :: l, h => by
    have h1 := linesW_le p l fun t ht => h t (List.mem_cons_of_mem _ ht)
    have h2 := h a List.mem_cons_self
    unfold linesW at h1 ⊢
    rw [List.flatMap_cons, List.length_append, List.length_cons]
    simp only [List.length_append, List.length_cons, List.length_nil, Nat.add_mul, Nat.one_mul]
    omega
theorem linesW_lim {p : Txt} (hp : p.length ≤ 9) {l : List Txt} (hl : l.length ≤ 1048576) (ht : ∀ t ∈ l, t.length ≤ 1048576) (k : Nat) : (linesW p (l.take k)).length ≤ 1100000000000 := by
  have h1 := linesW_le p (l.take k) fun t h => ht t (List.mem_of_mem_take h)
  have h2 : (l.take k).length ≤ 1048576 := by rw [List.length_take]; omega
  have h3 : p.length + 1048577 ≤ 1048586 := by omega
  exact Nat.le_trans h1 (Nat.le_trans (Nat.mul_le_mul h2 h3) (by decide))
/-- A unit whose lines are not too long. -/
structure SmallW (u : SV) : Prop where
  start : u.start.length ≤ 1048576
  texts : ∀ t ∈ u.req ++ u.aft, t.length ≤ 1048576
  n : u.n ≤ 60000000
  n2 : u.n2 ≤ 60000000
  lr : ∀ k, (linesW [114, 101, 113, 117, 105, 114, 101, 115, 32] (u.req.take k)).length ≤ 1100000000000
  la : ∀ k, (linesW [97, 102, 116, 101, 114, 32] (u.aft.take k)).length ≤ 1100000000000
theorem SmallU.lines {u : SV} (hs : SmallU u) (h1 : u.req.length = u.n) (h2 : u.aft.length = u.n2) : SmallW u :=
  ⟨hs.start, hs.texts, Nat.le_trans hs.n (by decide), Nat.le_trans hs.n2 (by decide), fun k => linesW_lim (by decide) (by rw [h1]; exact hs.n) (fun t h => hs.texts t (List.mem_append.2 (.inl h))) k, fun k => linesW_lim (by decide) (by rw [h2]; exact hs.n2) (fun t h => hs.texts t (List.mem_append.2 (.inr h))) k⟩
theorem linesU_eq (u : Srv) : linesU u = ([114, 117, 110, 32] ++ u.start ++ [10] ++ linesW [114, 101, 113, 117, 105, 114, 101, 115, 32] u.req) ++ linesW [97, 102, 116, 101, 114, 32] u.aft := rfl
theorem txtAt21 {w : World} {B : Nat} {A : Option Addr} {n c : Nat} {L : List Txt} (h : Slc w B 1 A n c (L.map encStr)) {k : Nat} (hk : k < n) :
    ∃ b off, A = some ⟨b, off, none⟩ ∧ b < B ∧ ∃ hl : k < L.length, w.cell? ⟨b, off + k, none⟩ = some (.string ⟨L[k].toArray⟩) := by
  obtain ⟨b, off, e, hb, hc⟩ := h.at_ (by omega)
  have hl : k < L.length := by have := h.len; simp at this; omega
  exact ⟨b, off, e, hb, hl, hc k _ (by simp [encStr, List.getElem?_map, List.getElem?_eq_getElem hl])⟩
theorem bsz_mk (l : Txt) : (ByteArray.mk l.toArray).size = l.length := by show l.toArray.size = _; simp
theorem bsz_arr (a : Array UInt8) : (ByteArray.mk a).size = a.size := rfl
theorem bsz_list (b : ByteArray) : b.data.toList.length = b.size := by rw [Array.length_toList]; rfl
set_option maxRecDepth 100000 in
set_option maxHeartbeats 1000000 in
theorem unit21W_any {w : World} {B : Nat} (u : SV) (h1 : Slc w B 1 u.A u.n u.c (u.req.map encStr)) (h2 : Slc w B 1 u.A2 u.n2 u.c2 (u.aft.map encStr)) (hB : B ≤ w.heap.size) (hs : SmallW u) :
    Calls Tryz.prog 73 #[.agg (svArr u)] w fun e w' => e = .returned (.string ⟨(linesU u.srv).toArray⟩) ∧ Below w.heap.size w w' := by
  obtain ⟨nm, st, rq, A, n, c, af, A2, n2, c2⟩ := u
  simp only at h1 h2
  have hb1 : Below w.heap.size w (w.alloc (.cells (svArr ⟨nm, st, rq, A, n, c, af, A2, n2, c2⟩) 59)) := (Below.refl _ w).alloc (Nat.le_refl _) _
  have H1 := Lib.hid h1
  have H2 := Lib.hid h2
  have HS := Lib.hid hs
  have HB1 := Lib.hid hb1
  have hst : st.length ≤ 1048576 := hs.start
  have hn : n ≤ 60000000 := hs.n
  have hn2 : n2 ≤ 60000000 := hs.n2
  have hl1 : rq.length = n := by have := h1.len; simpa using this
  have hl2 : af.length = n2 := by have := h2.len; simpa using this
  have HL1 := Lib.hid hl1
  have HL2 := Lib.hid hl2
  have q1 : ¬ 9223372036854775807 < 4 + st.length := by omega
  have q2 : ¬ 9223372036854775807 < 4 + st.length + 1 := by omega
  have HW1 := Lib.hid hs.lr
  have HW2 := Lib.hid hs.la
  show Calls _ _ _ _ fun e w' => e = .returned (.string ⟨(linesU ⟨nm, st, rq, af⟩).toArray⟩) ∧ Below w.heap.size w w'
  rw [linesU_eq]
  unfold svArr
  clear h1 h2 hs hb1 hl1 hl2
  go_enter Tryz.func73, Tryz.ntmps73
  go_wp2_with (fail)
  go_loopw [3, 15] (fun s i wr => ∃ (k : Nat) (bb : ByteArray), k ≤ n ∧ i = .int .i64 (k : Int) ∧ s = .string bb ∧ Aside (bb.data.toList = ([114, 117, 110, 32] ++ st ++ [10]) ++ linesW [114, 101, 113, 117, 105, 114, 101, 115, 32] (rq.take k)) ∧ Aside (Blk wr w.heap.size 59 #[.string ⟨nm.toArray⟩, .string ⟨st.toArray⟩, .slice A n c, .slice A2 n2 c2]) ∧ Aside (Below w.heap.size w wr)) (fun _ i _ => n - (intOf i).toNat)
  case atStart => exact ⟨0, _, Nat.zero_le _, rfl, rfl, (show (_ : Txt) = _ by simp [linesW]), Blk.new _ _ _, HB1.out⟩
  case round =>
    obtain ⟨k, bb, hk, rfl, rfl, hbb, hG, hb⟩ := hrel
    have hbs : bb.size ≤ 1200000000000 := by
      have h9 := congrArg List.length hbb.out
      have h8 := HW1.out k
      rw [bsz_list, List.length_append] at h9
      simp only [List.length_append, List.length_cons, List.length_nil] at h9
      omega
    by_cases hlt : k < n
    · obtain ⟨b, off, rfl, hbB, hl, c0⟩ := txtAt21 (H1.out.below (hb.out.mono hB)) hlt
      have ht := HS.out.texts _ (List.mem_append.2 (.inl (List.getElem_mem hl)))
      have HT := Lib.hid (linesW_succ [114, 101, 113, 117, 105, 114, 101, 115, 32] rq hl)
      generalize rq[k] = t at *
      have q1 : ¬ 9223372036854775807 < 9 + t.length := by omega
      have q2 : ¬ 9223372036854775807 < 9 + t.length + 1 := by omega
      have q3 : ¬ 9223372036854775807 < bb.size + (9 + t.length + 1) := by omega
      go_wp2_with (fail)
      exact ⟨⟨k + 1, _, by omega, by go_num, rfl, (show (_ : Txt) = _ by rw [HT.out, ← List.append_assoc, ← hbb.out]; simp), hG.out, hb.out⟩, by simp [intOf]; omega⟩
    · obtain rfl : k = n := by omega
      have HF := Lib.hid (show bb.data.toList = [114, 117, 110, 32] ++ st ++ [10] ++ linesW [114, 101, 113, 117, 105, 114, 101, 115, 32] rq by rw [hbb.out, List.take_of_length_le (by have := HL1.out; omega)])
      have g3 := hG.out.cell 3
      simp only [List.getElem?_toArray, List.getElem?_cons_zero, List.getElem?_cons_succ] at g3
      have HBS := Lib.hid hbs
      have HBB := hb
      clear hbb
      go_wp2_with (fail)
      go_loopw [3, 28] (fun s i wr' => ∃ (j : Nat) (b2 : ByteArray), j ≤ n2 ∧ i = .int .i64 (j : Int) ∧ s = .string b2 ∧ Aside (b2.data.toList = bb.data.toList ++ linesW [97, 102, 116, 101, 114, 32] (af.take j)) ∧ Aside (Below w.heap.size w wr')) (fun _ i _ => n2 - (intOf i).toNat)
      case atStart => exact ⟨0, _, Nat.zero_le _, rfl, rfl, (show (_ : Txt) = _ by simp [linesW]), HBB.out⟩
      case round =>
        obtain ⟨j, b2, hj, rfl, rfl, hb2, hb'⟩ := hrel
        have hs2 : b2.size ≤ 2400000000000 := by
          have h9 := congrArg List.length hb2.out
          have h8 := HW2.out j
          have h7 := HBS.out
          rw [bsz_list, List.length_append, bsz_list] at h9
          omega
        by_cases hlt : j < n2
        · obtain ⟨b, off, rfl, hbB, hl, c0⟩ := txtAt21 (H2.out.below (hb'.out.mono hB)) hlt
          have ht := HS.out.texts _ (List.mem_append.2 (.inr (List.getElem_mem hl)))
          have HT := Lib.hid (linesW_succ [97, 102, 116, 101, 114, 32] af hl)
          generalize af[j] = t at *
          have q1 : ¬ 9223372036854775807 < 6 + t.length := by omega
          have q2 : ¬ 9223372036854775807 < 6 + t.length + 1 := by omega
          have q3 : ¬ 9223372036854775807 < b2.size + (6 + t.length + 1) := by omega
          go_wp2_with (fail)
          exact ⟨⟨j + 1, _, by omega, by go_num, rfl, (show (_ : Txt) = _ by rw [HT.out, ← List.append_assoc, ← hb2.out]; simp), hb'.out⟩, by simp [intOf]; omega⟩
        · obtain rfl : j = n2 := by omega
          have HE := Lib.hid (show b2 = ⟨([114, 117, 110, 32] ++ st ++ [10] ++ linesW [114, 101, 113, 117, 105, 114, 101, 115, 32] rq ++ linesW [97, 102, 116, 101, 114, 32] af).toArray⟩ from bytes_inj (by rw [hb2.out, HF.out, List.take_of_length_le (by have := HL2.out; omega)]))
          go_wp2_with (fail)
          go_ret
          exact ⟨congrArg (fun b => Ending.returned (Value.string b)) HE.out, hb'.out⟩
theorem unit21_any {w : World} {B : Nat} (u : SV) (h1 : Slc w B 1 u.A u.n u.c (u.req.map encStr)) (h2 : Slc w B 1 u.A2 u.n2 u.c2 (u.aft.map encStr)) (hB : B ≤ w.heap.size) (hs : SmallU u) :
    Calls Tryz.prog 73 #[.agg (svArr u)] w fun e w' => e = .returned (.string ⟨(linesU u.srv).toArray⟩) ∧ Below w.heap.size w w' :=
  unit21W_any u h1 h2 hB (hs.lines (by have := h1.len; simpa using this) (by have := h2.len; simpa using this))
set_option maxRecDepth 100000 in
theorem started21_any {w : World} (u : SV) :
    Calls Tryz.prog 43 #[.agg (svArr u)] w fun e w' => e = .returned (.agg (avArr ⟨6, u.name, ev0, u⟩)) ∧ Below w.heap.size w w' := by
  obtain ⟨nm, st, rq, A, n, c, af, A2, n2, c2⟩ := u
  unfold svArr
  go_enter Tryz.func43, Tryz.ntmps43
  go_wp2_with (fail)
  have HR := Blk.new (w.alloc (.cells #[.string ⟨nm.toArray⟩, .string ⟨st.toArray⟩, .slice A n c, .slice A2 n2 c2] 59)) 61 (avArr ⟨6, nm, ev0, ⟨nm, st, rq, A, n, c, af, A2, n2, c2⟩⟩)
  rw [World.size_alloc] at HR
  exact bodyPost_ret (results_aggr (t := 2) (g := w.heap.size + 1) rfl rfl Tryz.isAgg61 Tryz.sizeOf61 rfl HR) rfl ⟨rfl, ((Below.refl _ w).alloc (Nat.le_refl _) _).alloc (by simp) _⟩
end Go.Proofs.YtibndaianhlcaaaGreatDoor
