/- The walks of slices.Delete at generations, boot.Remove, boot.Before. -/
import Derived.Test.YtdhlklidenfbeaaGreatDoorBootA
import Derived.Deep.RegionLaw
import Derived.Lib.SliceRun
namespace Go.Proofs.YtdhlklidenfbeaaGreatDoor
open Go.RowKit Go.Sort
set_option linter.unusedVariables false
set_option linter.unusedSimpArgs false

def sets (cs : Array Value) : Nat → List Value → Array Value
  | _, [] => cs
  | o, v :: r => sets (cs.setIfInBounds o v) (o + 1) r
theorem Blk.setCells {g : Nat} {t : TypeId} : ∀ (vs : List Value) (o : Nat) {w : World} {cs : Array Value}, Blk w g t cs → Blk (w.setCells g o vs) g t (sets cs o vs)
  | [], _, _, _, h => h
  | v :: r, o, _, _, h => Blk.setCells r (o + 1) (h.set_ o v)
theorem below_setCells {B : Nat} {a : World} {g : Nat} (hg : B ≤ g) : ∀ (vs : List Value) (o : Nat) {w : World}, Below B a w → Below B a (w.setCells g o vs)
  | [], _, _, h => h
  | v :: r, o, _, h => below_setCells hg r (o + 1) (h.setCell hg v)
theorem sets_size : ∀ (vs : List Value) (o : Nat) (cs : Array Value), (sets cs o vs).size = cs.size
  | [], _, _ => rfl
  | v :: r, o, cs => by rw [sets, sets_size r]; simp
theorem sets_list : ∀ (vs : List Value) (o : Nat) (cs : Array Value), o + vs.length ≤ cs.size → (sets cs o vs).toList = cs.toList.take o ++ vs ++ cs.toList.drop (o + vs.length)
  | [], o, cs, _ => by simp [sets]
  | v :: r, o, cs, h => by
    rw [List.length_cons] at h
    rw [sets, sets_list r (o + 1) _ (by simp; omega)]
    have hl : o < cs.toList.length := by simp; omega
    have e : (cs.setIfInBounds o v).toList = cs.toList.take o ++ v :: cs.toList.drop (o + 1) := by
      rw [Array.toList_setIfInBounds, List.set_eq_take_append_cons_drop, if_pos hl]
    have hlt : (cs.toList.take o).length = o := by rw [List.length_take]; omega
    rw [e, List.take_append, hlt, show o + 1 - o = 1 by omega, List.take_of_length_le (by omega), List.drop_append, hlt]
    have hnil : List.drop (o + 1 + r.length) (List.take o cs.toList) = [] := List.drop_eq_nil_of_le (by omega)
    rw [hnil]
    rw [show o + 1 + r.length - o = r.length + 1 by omega]
    simp only [List.take_succ_cons, List.take_zero, List.drop_succ_cons, List.nil_append, List.drop_drop, List.length_cons, List.append_assoc, List.cons_append]
    rw [show o + 1 + r.length = o + (r.length + 1) by omega]
theorem grownBy_setCells {g : Nat} : ∀ (vs : List Value) (o : Nat) {a w : World}, a.grownBy w (some g) → a.grownBy (w.setCells g o vs) (some g)
  | [], _, _, _, h => h
  | v :: r, o, a, w, h => grownBy_setCells r (o + 1) ⟨h.os, h.tape, h.output, by simpa [World.setCell] using h.size, fun k hk hne => by
      rw [Below.heap_setCell w ⟨g, o, none⟩ v k (fun e => hne (by rw [e]))]; exact h.block k hk hne⟩
theorem flatMap_take {α : Type} (g : α → List Value) (sz : Nat) : ∀ (l : List α) (k : Nat), (∀ x ∈ l, (g x).length = sz) → (l.flatMap g).take (k * sz) = (l.take k).flatMap g ∧ (l.flatMap g).drop (k * sz) = (l.drop k).flatMap g
  | [], k, _ => by simp
  | x :: l, 0, _ => by simp
  | x :: l, k + 1, h => by
    have hx := h x List.mem_cons_self
    have ih := flatMap_take g sz l k (fun y hy => h y (List.mem_cons_of_mem _ hy))
    rw [List.flatMap_cons, Nat.succ_mul, List.take_succ_cons, List.flatMap_cons, List.drop_succ_cons]
    constructor
    · rw [List.take_append, hx, List.take_of_length_le (by omega), show k * sz + sz - sz = k * sz by omega, ih.1]
    · rw [List.drop_append, hx, List.drop_eq_nil_of_le (by omega), show k * sz + sz - sz = k * sz by omega, ih.2, List.nil_append]

theorem gen_zero : ∀ w, (zeroValue 61).run Tryz.prog w = .ok (.agg #[.int .i64 0, .string .empty]) w := Tryz.zeroValue61
/-- clear of one generation. -/
theorem run_clear_gen (w : World) (ty : TypeId) (b o c : Nat) (hc : ∀ j, j < 2 → (w.cell? ⟨b, o + j, none⟩).isSome = true) (hf : ∀ j, j < 2 → w.frozen? ⟨b, o + j, none⟩ = false) :
    (Builtin.clear_ #[22] ty #[.slice (some ⟨b, o, none⟩) 1 c]).run Tryz.prog w = .ok (.tuple #[]) (w.setCells b o [.int .i64 0, .string ⟨#[]⟩]) := by
  have hst := run_storeCells_cells (P := Tryz.prog) b o [.int .i64 0, .string ⟨#[]⟩] 0 w (by simpa using hc) (by simpa using hf) (by intro v hv; simp only [List.mem_cons, List.not_mem_nil, or_false] at hv; rcases hv with rfl | rfl <;> rfl)
  simp only [Nat.add_zero] at hst
  have hz : (Builtin.zeroCells (Value.agg #[.int .i64 0, .string ⟨#[]⟩]).cells 1).toList = [.int .i64 0, .string ⟨#[]⟩] := by kernel_rfl
  simp [Builtin.clear_, run_underlying Tryz.underlying22, gen_zero, hz, hst]

set_option maxHeartbeats 4000000 in
set_option maxRecDepth 100000 in
theorem delete_any {w : World} {base : Nat} {A : Option Addr} {n c : Nat} {l : List Gen} (h : w.ownsRow base 61 2 (.slice A n c) n (l.flatMap genCells)) (i j : Nat) (hj : j = i + 1) (hi : i < n) :
    Calls Tryz.prog 50 #[.slice A n c, .int .i64 (i : Int), .int .i64 (j : Int)] w fun e w' => e = .returned (.slice A (n - 1) c) ∧
      w'.ownsRow base 61 2 (.slice A (n - 1) c) (n - 1) ((l.take i ++ l.drop j).flatMap genCells) ∧ w.grownBy w' (Value.slice A n c).ownBlock := by
  have hlen : l.length = n := (own_gens h).len
  rcases h.2 with ⟨_, h0⟩ | ⟨g, cap, cur, e, hbase, hb, h1, h2, h3, h4⟩
  · omega
  injection e with e1 _ e3
  subst e1 e3
  have hB : Blk w g 61 cur := hb
  have hfm := flatMap_take genCells 2 l
  obtain ⟨news, hnews⟩ : ∃ news, news = (l.drop j).flatMap genCells := ⟨_, rfl⟩
  have hnl : news.length = (n - j) * 2 := by rw [hnews, flatMap_len genCells 2 _ (fun o _ => genCells_length o), List.length_drop, hlen]
  have hcellN : ∀ t u, news[t]? = some u → cur.toList[j * 2 + t]? = some u := by
    intro t u hu
    have ht := (List.getElem?_eq_some_iff.1 hu).1
    rw [hnews, ← (hfm j (fun o _ => genCells_length o)).2, List.getElem?_drop, ← h4, List.getElem?_take_of_lt (by omega)] at hu
    exact hu
  obtain ⟨AD, hA, hsrc⟩ : ∃ AD : Addr, (if c = j then some (⟨g, 0, none⟩ : Addr) else some ⟨g, j * 2, none⟩) = some AD ∧ Hid (∀ t u, news[t]? = some u → w.drew.cell? (AD.add t) = some u) := by
    by_cases hcj : c = j
    · refine ⟨⟨g, 0, none⟩, by simp [hcj], fun t u hu => ?_⟩
      have h0 : news.length = 0 := by rw [hnl]; omega
      rw [List.length_eq_zero_iff.1 h0] at hu
      simp at hu
    · refine ⟨⟨g, j * 2, none⟩, by simp [hcj], fun t u hu => ?_⟩
      rw [addr_of_add]
      have := hB.drew.cell (j * 2 + t)
      rw [this, ← Array.getElem?_toList]
      exact hcellN t u hu
  have s1 : Hid (news.length = (n - j) * 2) := hnl
  have s2 : Hid (∀ u ∈ news, u.oneCell' = true) := by rw [hnews]; exact genCells_one _
  have s3 : Hid (∀ t, t < news.length → (w.drew.cell? ⟨g, 0 + i * 2 + t, none⟩).isSome = true ∧ w.drew.frozen? ⟨g, 0 + i * 2 + t, none⟩ = false) := by
    intro t ht
    refine ⟨?_, hB.drew.frozen _⟩
    rw [hB.drew.cell, Array.getElem?_eq_getElem (by omega)]
    rfl
  obtain ⟨i0, hi0, hz0, hz1, hz2⟩ := info_parts gen_info
  obtain ⟨W1, hW1⟩ : ∃ W1, W1 = w.drew.setCells g (0 + i * 2) news := ⟨_, rfl⟩
  have hB1 : Blk W1 g 61 (sets cur (0 + i * 2) news) := by rw [hW1]; exact Blk.setCells news _ hB.drew
  have hcl : ∀ ty, (Builtin.clear_ #[22] ty #[.slice (some ⟨g, (i + (n - j)) * 2, none⟩) (n - (i + (n - j))) (c - (i + (n - j)))]).run Tryz.prog W1 = .ok (.tuple #[]) (W1.setCells g ((i + (n - j)) * 2) [.int .i64 0, .string ⟨#[]⟩]) := fun ty => by
    rw [show n - (i + (n - j)) = 1 by omega]
    exact run_clear_gen W1 ty g ((i + (n - j)) * 2) _ (fun t ht => by rw [hB1.cell, Array.getElem?_eq_getElem (by rw [sets_size]; omega)]; rfl) (fun t _ => hB1.frozen _)
  have hW : Hid (W1 = w.drew.setCells g (0 + i * 2) news) := hW1
  have HB1 := Lib.hid hB1
  have hci : i ≤ c := by omega
  have hcj : j ≤ c := by omega
  have HJ := Lib.hid hj
  have hij : i < j := by omega
  have hjn : j ≤ n := by omega
  have hne : ((i : Int) == (j : Int)) = false := by simp; omega
  have H4 := Lib.hid h4
  have HNW := Lib.hid hnews
  clear hW1 hB1 hB hb hcellN hj h4 hnews hfm
  go_enter Tryz.func50, Tryz.ntmps50
  go_wp2_with fail
  go_region_law (refine step_append_room rfl (.tmp 22) (.tmp 25) 22 rfl 61 i0 2 Tryz.underlying22 hi0 hz1 g 0 i c (by simp [Act.eval, Act.put]) AD (n - j) (c - j) news (by simp [Act.eval, Act.put]) s1.out hsrc.out s2.out (by omega) s3.out ?_; rw [← hW.out])
  go_wp2
  go_ret
  have hj := HJ.out
  have hm : i + (n - j) = n - 1 := by omega
  have hB2 := Blk.setCells [.int .i64 0, .string ⟨#[]⟩] ((i + (n - j)) * 2) HB1.out
  refine ⟨by rw [← hm]; rfl, ⟨?_, .inr ⟨g, c, _, rfl, hbase, hB2, by omega, h2, by rw [sets_size, sets_size, h3], ?_⟩⟩, ?_⟩
  · rw [flatMap_len genCells 2 _ (fun o _ => genCells_length o), List.length_append, List.length_take, List.length_drop]
    omega
  · have hcl : cur.toList.length = c * 2 := by simp [h3]
    have hsz : (sets cur (0 + i * 2) news).toList.length = c * 2 := by rw [Array.length_toList, sets_size, h3]
    rw [sets_list _ _ _ (by rw [sets_size, h3]; simp only [List.length_cons, List.length_nil]; omega), hm]
    have hl1 : ((sets cur (0 + i * 2) news).toList.take ((n - 1) * 2)).length = (n - 1) * 2 := by rw [List.length_take, hsz]; omega
    rw [List.append_assoc, List.take_append, hl1, Nat.sub_self, List.take_zero, List.append_nil, List.take_take, Nat.min_self]
    rw [sets_list _ _ _ (by rw [h3]; have := s1.out; omega), Nat.zero_add]
    have hl2 : (cur.toList.take (i * 2) ++ news).length = (n - 1) * 2 := by rw [List.length_append, List.length_take, s1.out, hcl]; omega
    rw [List.take_append, hl2, Nat.sub_self, List.take_zero, List.append_nil, List.take_of_length_le (by omega), List.flatMap_append]
    congr 1
    · have h5 := congrArg (List.take (i * 2)) H4.out
      rw [List.take_take, show min (i * 2) (n * 2) = i * 2 by omega] at h5
      rw [h5]
      exact (flatMap_take genCells 2 l i (fun o _ => genCells_length o)).1
  · have h0 : w.grownBy w.drew (some g) := ⟨rfl, rfl, rfl, Nat.le_refl _, fun _ _ _ => rfl⟩
    have h5 := grownBy_setCells [.int .i64 0, .string ⟨#[]⟩] ((i + (n - j)) * 2) (grownBy_setCells news (0 + i * 2) h0)
    rw [← hW.out] at h5
    exact h5

theorem dropG_at : ∀ (l : List Gen) (n : Int), l.Pairwise (fun a b => a.num < b.num) → hasB l n = true → atG l n < l.length ∧ dropG l n = l.take (atG l n) ++ l.drop (atG l n + 1)
  | [], n, _, h => by cases h
  | g :: l, n, hp, h => by
    rw [List.pairwise_cons] at hp
    by_cases hg : g.num = n
    · have h0 : atG (g :: l) n = 0 := by unfold atG; rw [List.takeWhile_cons, if_neg (by simp [hg])]; rfl
      rw [h0]
      refine ⟨by simp, ?_⟩
      unfold dropG
      rw [List.filter_cons_of_neg (by simp [hg])]
      simp only [List.take_zero, List.nil_append, Nat.zero_add, List.drop_succ_cons, List.drop_zero]
      rw [List.filter_eq_self]
      intro x hx
      have := hp.1 x hx
      simp
      omega
    · have h1 : hasB l n = true := by
        obtain ⟨x, hx, e⟩ := hasB_iff.1 h
        rcases List.mem_cons.1 hx with rfl | hx
        · exact absurd e hg
        · exact hasB_iff.2 ⟨x, hx, e⟩
      have ih := dropG_at l n hp.2 h1
      have h0 : atG (g :: l) n = atG l n + 1 := by unfold atG; rw [List.takeWhile_cons, if_pos (by simpa using hg), List.length_cons]
      rw [h0]
      refine ⟨by simp; exact ih.1, ?_⟩
      unfold dropG at ih ⊢
      rw [List.filter_cons_of_pos (by simpa using hg), ih.2]
      simp

section
attribute [local go_sem ↓] load_menu_mark store_menu_mark
set_option maxRecDepth 100000 in
set_option maxHeartbeats 2000000 in
theorem remove_any {w : World} {B : Nat} {A : Option Addr} {n c : Nat} {m : Menu} (h : GensAt w B A n c m.gens) (hB : B ≤ w.heap.size) (hpl : ∀ g ∈ m.gens, g.path.length ≤ 1000000000) (hn : n ≤ 1000000000) (num : Int) :
    Calls Tryz.prog 25 #[menuV m A n c, .int .i64 num] w fun e w' => ∃ v, e = .returned (.tuple #[v, .int .i64 (removeM m num).err]) ∧ MenuGot w w' (removeM m num).menu v := by
  obtain ⟨W2, hW2⟩ : ∃ W2, W2 = (w.alloc (.cells #[.int .i64 m.last, .int .i64 m.def_, .int .i64 m.next, .int .i64 m.trial, .slice A n c] 24)).alloc (.cells #[.int .i64 0, .int .i64 0, .int .i64 0, .int .i64 0, .slice none 0 0] 24) := ⟨_, rfl⟩
  obtain ⟨hb2, hz2, hM2, hR2⟩ := pre2 m A n c w W2 hW2
  have hf := find_any (h.below (hb2.mono hB)) (Nat.le_trans hB hb2.size) hpl num
  have hown := fun (w3 : World) (hb : Below w.heap.size w w3) => own_any (m := m) (h.below (hb.mono hB)) (Nat.le_trans hB hb.size) hn
  have hl2 := load_menu hM2
  have H := Lib.hid (And.intro hb2 (And.intro hz2 (And.intro hM2 hR2)))
  have hlen := h.len
  have hn62 : n ≤ 9223372036854775807 := by omega
  clear hb2 hz2 hM2 hR2 h
  rw [hW2] at hf hl2
  unfold menuV at hf hown ⊢
  by_cases he : findE m num = 0
  case neg =>
    have H1 := Lib.hid (show removeM m num = refuse (findE m num) by unfold removeM; rw [if_pos he])
    have hne : (findE m num != 0) = true := by simpa using he
    generalize findE m num = e at *
    clear hown he
    go_enter Tryz.func25, Tryz.ntmps25
    go_wp2_with (go_at_call 49; refine hf.mono ?_; clear hf; rintro e2 w3 ⟨rfl, hb3⟩; rw [← hW2] at hb3; have hR3 := H.out.2.2.2.below hb3 H.out.2.2.2.lt; have hst := store_menu hR3 rfl 0 0 0 0 none 0 0)
    refine bodyPost_ret (res_menu2 (t := 4) (u := 5) (g := w.heap.size + 1) rfl rfl (hR3.row _) rfl) rfl ⟨menuV zeroM none 0 0, by rw [H1.out]; rfl, ?_⟩
    rw [H1.out]
    exact refused_any (H.out.1.trans (hb3.mono H.out.1.size)) hR3
  case pos =>
  have hfi : findI m num = (atG m.gens num : Int) := by unfold findI; rw [if_pos he]
  obtain ⟨hm, hh⟩ : menuB m = true ∧ hasB m.gens num = true := by
    rcases findE_cases m num with h1 | h1 | ⟨_, h2, h3⟩
    · rw [he] at h1; exact absurd h1 (by decide)
    · rw [he] at h1; exact absurd h1 (by decide)
    · exact ⟨h2, h3⟩
  rw [he, hfi] at hf
  by_cases hk : num = m.def_ ∨ num = m.next ∨ num = m.trial
  · have H1 := Lib.hid (show removeM m num = refuse 68 by unfold removeM; rw [if_neg (by rw [he]; decide), if_pos hk])
    have hcs : num = m.def_ ∨ (num ≠ m.def_ ∧ num = m.next) ∨ (num ≠ m.def_ ∧ num ≠ m.next ∧ num = m.trial) := by omega
    clear he hfi hm hh hk hown hlen
    rcases hcs with hc1 | ⟨hc0, hc1⟩ | ⟨hc0, hc2, hc1⟩
    · have k0 : (num == m.def_) = true := by simpa using hc1
      clear hc1
      go_enter Tryz.func25, Tryz.ntmps25
      go_wp2_with (go_at_call 49; refine hf.mono ?_; clear hf; rintro e2 w3 ⟨rfl, hb3⟩; rw [← hW2] at hb3; have hR3 := H.out.2.2.2.below hb3 H.out.2.2.2.lt; obtain ⟨m0, m1, m2, m3, m4, mf⟩ := menu_facts (H.out.2.2.1.below hb3 H.out.2.2.1.lt); have hst := store_menu hR3 rfl 0 0 0 0 none 0 0)
      refine bodyPost_ret (res_menu2 (t := 4) (u := 5) (g := w.heap.size + 1) rfl rfl (hR3.row _) rfl) rfl ⟨menuV zeroM none 0 0, by rw [H1.out]; rfl, ?_⟩
      rw [H1.out]
      exact refused_any (H.out.1.trans (hb3.mono H.out.1.size)) hR3
    · have k0 : (num == m.def_) = false := by simpa using hc0
      have k1 : (num == m.next) = true := by simpa using hc1
      clear hc1
      go_enter Tryz.func25, Tryz.ntmps25
      go_wp2_with (go_at_call 49; refine hf.mono ?_; clear hf; rintro e2 w3 ⟨rfl, hb3⟩; rw [← hW2] at hb3; have hR3 := H.out.2.2.2.below hb3 H.out.2.2.2.lt; obtain ⟨m0, m1, m2, m3, m4, mf⟩ := menu_facts (H.out.2.2.1.below hb3 H.out.2.2.1.lt); have hst := store_menu hR3 rfl 0 0 0 0 none 0 0)
      refine bodyPost_ret (res_menu2 (t := 4) (u := 5) (g := w.heap.size + 1) rfl rfl (hR3.row _) rfl) rfl ⟨menuV zeroM none 0 0, by rw [H1.out]; rfl, ?_⟩
      rw [H1.out]
      exact refused_any (H.out.1.trans (hb3.mono H.out.1.size)) hR3
    · have k0 : (num == m.def_) = false := by simpa using hc0
      have k1 : (num == m.next) = false := by simpa using hc2
      have k2 : (num == m.trial) = true := by simpa using hc1
      clear hc1
      go_enter Tryz.func25, Tryz.ntmps25
      go_wp2_with (go_at_call 49; refine hf.mono ?_; clear hf; rintro e2 w3 ⟨rfl, hb3⟩; rw [← hW2] at hb3; have hR3 := H.out.2.2.2.below hb3 H.out.2.2.2.lt; obtain ⟨m0, m1, m2, m3, m4, mf⟩ := menu_facts (H.out.2.2.1.below hb3 H.out.2.2.1.lt); have hst := store_menu hR3 rfl 0 0 0 0 none 0 0)
      refine bodyPost_ret (res_menu2 (t := 4) (u := 5) (g := w.heap.size + 1) rfl rfl (hR3.row _) rfl) rfl ⟨menuV zeroM none 0 0, by rw [H1.out]; rfl, ?_⟩
      rw [H1.out]
      exact refused_any (H.out.1.trans (hb3.mono H.out.1.size)) hR3
  · have H1 := Lib.hid (show removeM m num = ⟨0, { m with gens := dropG m.gens num }⟩ by unfold removeM; rw [if_neg (by rw [he]; decide), if_neg hk])
    have k0 : (num == m.def_) = false := by simp; omega
    have k1 : (num == m.next) = false := by simp; omega
    have k2 : (num == m.trial) = false := by simp; omega
    obtain ⟨hat, hdg⟩ := dropG_at m.gens num ((menuB_iff m).1 hm).gens.rise hh
    rw [hlen] at hat
    have HDG := Lib.hid hdg
    have hi62 : (atG m.gens num : Int) < 9223372036854775807 := by omega
    generalize atG m.gens num = i at *
    clear he hfi hm hh hk hlen hdg
    go_enter Tryz.func25, Tryz.ntmps25
    go_wp2_with (first
      | (go_at_call 49; refine hf.mono ?_; clear hf; rintro e2 w3 ⟨rfl, hb3⟩; rw [← hW2] at hb3; have HW3 := H.out.1.trans (hb3.mono H.out.1.size); have hM3 := H.out.2.2.1.below hb3 H.out.2.2.1.lt; have hR3 := H.out.2.2.2.below hb3 H.out.2.2.2.lt; obtain ⟨m0, m1, m2, m3, m4, mf⟩ := menu_facts hM3; have hl3 := load_menu hM3; have ho := hown w3 HW3)
      | (go_at_call 48; refine ho.mono ?_; clear ho m0 m1 m2 m3 m4 mf; rintro e5 w5 ⟨A5, k5, rfl, ho5, hb5⟩; have hM5 := hM3.below hb5 hM3.lt; have hR5 := hR3.below hb5 hR3.lt; have hst := store_menu hM5 rfl m.last m.def_ m.next m.trial A5 n k5; have hM6 := hM5.row #[.int .i64 m.last, .int .i64 m.def_, .int .i64 m.next, .int .i64 m.trial, .slice A5 n k5]; obtain ⟨m0, m1, m2, m3, m4, mf⟩ := menu_facts hM6; have hdel := delete_any (own_row ho5 (own_ne ho5 hM3.lt) #[.int .i64 m.last, .int .i64 m.def_, .int .i64 m.next, .int .i64 m.trial, .slice A5 n k5]) i (i + 1) rfl hat; rw [show ((i + 1 : Nat) : Int) = (i : Int) + 1 by omega] at hdel)
      | (go_at_call 50; refine hdel.mono ?_; clear hdel; rintro e7 w7 ⟨rfl, ho7, hg7⟩; have hM7 := hM6.grown hg7 (fun e => own_ne ho5 hM3.lt e.symm); have hR7 := (hR5.row_far (g' := w.heap.size) (by omega) #[.int .i64 m.last, .int .i64 m.def_, .int .i64 m.next, .int .i64 m.trial, .slice A5 n k5]).grown hg7 (fun e => own_ne ho5 hR3.lt e.symm); obtain ⟨q0, q1, q2, q3, q4, qf⟩ := menu_facts hM7; have hM8 := hM7.set_ 4 (.slice A5 (n - 1) k5); simp only [List.setIfInBounds_toArray, List.set_cons_zero, List.set_cons_succ] at hM8; have hl8 := load_menu hM8; have hR8 := hR7.far (p := ⟨w.heap.size, 4, none⟩) (by simp) (.slice A5 (n - 1) k5); have hst8 := store_menu hR8 rfl m.last m.def_ m.next m.trial A5 (n - 1) k5))
    refine bodyPost_ret (res_menu2 (t := 4) (u := 5) (g := w.heap.size + 1) rfl rfl (hR8.row _) rfl) rfl ⟨menuV { m with gens := dropG m.gens num } A5 (n - 1) k5, by rw [H1.out]; rfl, ?_⟩
    rw [H1.out]
    have n0 := own_ne ho7 hM3.lt
    have n1 := own_ne ho7 hR3.lt
    refine ⟨A5, n - 1, k5, rfl, ?_, ?_⟩
    · have h9 := own_row (own_set (own_mono ho7 HW3.size) (p := ⟨w.heap.size, 4, none⟩) n0 (.slice A5 (n - 1) k5)) n1 #[.int .i64 m.last, .int .i64 m.def_, .int .i64 m.next, .int .i64 m.trial, .slice A5 (n - 1) k5]
      rw [← HDG.out] at h9
      exact h9
    · have h8 := below_row (HW3.trans (hb5.mono HW3.size)) (Nat.le_refl w.heap.size) #[.int .i64 m.last, .int .i64 m.def_, .int .i64 m.next, .int .i64 m.trial, .slice A5 n k5]
      exact below_row ((h8.grown hg7 h8.size (fun q hq => Nat.le_trans HW3.size (ho5.lt q hq).1)).setCell (Nat.le_refl _) _) (by omega) _

end
end Go.Proofs.YtdhlklidenfbeaaGreatDoor
