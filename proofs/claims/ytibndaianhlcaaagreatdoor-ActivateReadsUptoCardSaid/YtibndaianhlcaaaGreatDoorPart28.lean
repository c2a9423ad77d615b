/- A region that draws its order, reads what it stores into at its end: loads are taken first, where what they read holds until the last operation. slices.EqualFunc at entries and units; activate.Meets. -/
import Derived.Test.YtibndaianhlcaaaGreatDoorPart7
import Derived.Deep.RegionHeld3
import Derived.Test.YtibndaianhlcaaaGreatDoorPart19
import Derived.Test.YtibndaianhlcaaaGreatDoorPart18
namespace Go.Proofs.YtibndaianhlcaaaGreatDoor
open Go.RowKit
set_option linter.unusedVariables false
set_option linter.unusedSimpArgs false

section
variable {P : Program} {ops : Array Oper} {Q : Exit → Act → World → Prop} {md : Region.Mode} {S : World → Prop} {L : Nat}
/-- Whatever order is picked, S holds behind every operation but the L-th. -/
def wpAnyK (P : Program) (md : Region.Mode) (ops : Array Oper) (Q : Exit → Act → World → Prop) (S : World → Prop) (L : Nat) : Nat → Array Bool → Act → World → Prop
  | 0, listed, a, w => Region.ready md ops listed = [] ∧ Q .normal a w
  | fuel + 1, listed, a, w => (Region.ready md ops listed = [] → Q .normal a w) ∧ ∀ i ∈ Region.ready md ops listed, wpOp P ops Q i (fun a' w' => (i ≠ L → S w') ∧ wpAnyK P md ops Q S L fuel (listed.setIfInBounds i true) a' w') a w
theorem wpAny_of_K : ∀ (fuel : Nat) (listed : Array Bool) (a : Act) (w : World), wpAnyK P md ops Q S L fuel listed a w → wpAny P md ops Q fuel listed a w
  | 0, _, _, _, h => h
  | fuel + 1, _, _, _, h => ⟨h.1, fun i hi => wpOp_mono (fun a' w' h' => wpAny_of_K fuel _ a' w' h'.2) (h.2 i hi)⟩
/-- What has come up has come up behind all that it waits for. -/
def downB (md : Region.Mode) (ops : Array Oper) (listed : Array Bool) : Bool :=
  (List.range ops.size).all fun j => !listed.getD j true || ((ops[j]?).map (·.after.all fun e => !Region.binds md e || listed.getD e.on false)).getD true
/-- Each waits for the one ahead of it. -/
def chainB (md : Region.Mode) (ops : Array Oper) : List Nat → Bool
  | i :: j :: r => (((ops[j]?).map (·.after.any fun e => Region.binds md e && e.on == i)).getD false) && chainB md ops (j :: r)
  | _ => true
theorem down_at {listed : Array Bool} (h : downB md ops listed = true) {j : Nat} {oj : Oper} (hj : ops[j]? = some oj) (hl : listed.getD j true = true) : ∀ e ∈ oj.after, Region.binds md e = true → listed.getD e.on false = true := fun e he hb => by
  have hjs : j < ops.size := (Array.getElem?_eq_some_iff.1 hj).1
  have h1 := List.all_eq_true.1 h j (List.mem_range.2 hjs)
  rw [hl, hj] at h1
  simp only [Bool.not_true, Bool.false_or, Option.map_some, Option.getD_some] at h1
  have h2 := Array.all_eq_true_iff_forall_mem.1 h1 e he
  rw [hb] at h2
  simpa using h2
theorem down_set {listed : Array Bool} (h : downB md ops listed = true) {i : Nat} (hi : i ∈ Region.ready md ops listed) : downB md ops (listed.setIfInBounds i true) = true := by
  obtain ⟨hun, oi, hoi, hall⟩ := mem_ready.1 hi
  unfold downB
  rw [List.all_eq_true]
  intro j hj
  have hjs := List.mem_range.1 hj
  have hoj : ops[j]? = some ops[j] := Array.getElem?_eq_getElem hjs
  rw [hoj]
  simp only [Option.map_some, Option.getD_some, Bool.or_eq_true]
  have up : ∀ k, listed.getD k false = true → (listed.setIfInBounds i true).getD k false = true := fun k hk => by
    by_cases hik : i = k
    · subst hik
      rcases Nat.lt_or_ge i listed.size with h' | h'
      · simp [h']
      · simp [Array.getElem?_eq_none h'] at hk
    · rw [getD_set_ne false hik]; exact hk
  by_cases hji : i = j
  · subst hji
    right
    rw [hoi] at hoj
    rw [← Option.some.inj hoj]
    rw [Array.all_eq_true_iff_forall_mem]
    intro e he
    by_cases hb : Region.binds md e = true
    · rw [up _ (hall e he hb)]; simp
    · simp [hb]
  · by_cases hl : listed.getD j true = true
    · right
      rw [Array.all_eq_true_iff_forall_mem]
      intro e he
      by_cases hb : Region.binds md e = true
      · rw [up _ (down_at h hoj hl e he hb)]; simp
      · simp [hb]
    · left
      rw [getD_set_ne true hji]
      simpa using hl
theorem chain_listed {listed : Array Bool} (hd : downB md ops listed = true) : ∀ (l : List Nat) (i : Nat), chainB md ops (i :: l) = true → (i :: l).getLast? = some L → L ∈ Region.ready md ops listed → i ≠ L → listed.getD i false = true
  | [], i, _, h2, _, h4 => by
    simp at h2
    exact absurd h2 h4
  | j :: r, i, h1, h2, h3, h4 => by
    simp only [chainB, Bool.and_eq_true] at h1
    obtain ⟨h5, h6⟩ := h1
    cases hj : ops[j]? with
    | none => rw [hj] at h5; cases h5
    | some oj =>
      rw [hj] at h5
      simp only [Option.map_some, Option.getD_some] at h5
      obtain ⟨e, he, hb⟩ : ∃ e ∈ oj.after, (Region.binds md e && e.on == i) = true := by
        obtain ⟨k, hk, h9⟩ := Array.any_eq_true.1 h5
        exact ⟨oj.after[k], Array.getElem_mem hk, h9⟩
      simp only [Bool.and_eq_true, beq_iff_eq] at hb
      by_cases hjL : j = L
      · obtain ⟨_, o', ho', hall⟩ := mem_ready.1 h3
        rw [← hjL, hj] at ho'
        have := hall e (by rw [← Option.some.inj ho']; exact he) hb.1
        rwa [hb.2] at this
      · have h7 := chain_listed hd r j h6 (by rwa [List.getLast?_cons_cons] at h2) h3 hjL
        have h8 : listed.getD j true = true := by
          rcases Nat.lt_or_ge j listed.size with h' | h'
          · simp [h'] at h7 ⊢; exact h7
          · simp [Array.getElem?_eq_none h'] at h7
        have := down_at hd hj h8 e he hb.1
        rwa [hb.2] at this
theorem wpAnyK_first {i : Nat} {oi : Oper} {v : Value} (l : List Nat) (hc : chainB md ops (i :: l) = true) (hlast : (i :: l).getLast? = some L) (hiL : i ≠ L) (hi : ops[i]? = some oi) (hsel : ∀ (j : Nat) (o : Oper) cs b, ops[j]? = some o → o.op ≠ .select cs b)
    (hQ : ∀ c a w, Q (.panic c) (a.put oi.dst v) w → Q (.panic c) a w) :
    ∀ (fuel : Nat) (listed : Array Bool) (a : Act) (w : World), downB md ops listed = true →
      (∀ j oj, ops[j]? = some oj → j ≠ i → listed.getD j true = false → (∀ e ∈ oj.after, Region.binds md e = true → e.on ≠ i) → oi.apart ops oj = true) →
      i ∈ Region.ready md ops listed → YieldsIf P ops S oi v a → S w →
      wpAnyK P md ops Q S L fuel (listed.setIfInBounds i true) (a.put oi.dst v) w → wpAnyK P md ops Q S L (fuel + 1) listed a w := by
  intro fuel
  induction fuel with
  | zero =>
    intro listed a w _ _ hr hy hS H
    refine ⟨fun h => (by rw [h] at hr; cases hr), fun j hj => ?_⟩
    by_cases hji : j = i
    · subst hji; exact hy.wpOp hi hS ⟨fun _ => hS, H⟩
    · have := ready_mono hj hji
      rw [H.1] at this
      cases this
  | succ fuel ih =>
    intro listed a w hd hfree hr hy hS H
    refine ⟨fun h => (by rw [h] at hr; cases hr), fun j hj => ?_⟩
    by_cases hji : j = i
    · subst hji; exact hy.wpOp hi hS ⟨fun _ => hS, H⟩
    · have h1 := H.2 j (ready_mono hj hji)
      obtain ⟨hjun, oj, hoj, hall⟩ := mem_ready.1 hj
      have hiun := (mem_ready.1 hr).1
      have hcon : ∀ k, listed.getD k true = false → listed.getD k false = true → False := fun k h0 h1 => by
        rcases Nat.lt_or_ge k listed.size with h' | h'
        · simp [h'] at h0 h1; rw [h0] at h1; cases h1
        · simp [Array.getElem?_eq_none h'] at h1
      have hjL : j ≠ L := fun e => hcon i hiun (chain_listed hd l i hc hlast (e ▸ hj) hiL)
      have hnot : ∀ e ∈ oj.after, Region.binds md e = true → e.on ≠ i := fun e he hb heq => hcon i hiun (by rw [← heq]; exact hall e he hb)
      have h2 := wpOp_putIf hoj (hfree j oj hoj hji hjun hnot) (fun cs b => hsel i oi cs b hi) (fun cs b => hsel j oj cs b hoj) hQ hy h1
      have hfree' : ∀ k ok, ops[k]? = some ok → k ≠ i → (listed.setIfInBounds j true).getD k true = false →
          (∀ e ∈ ok.after, Region.binds md e = true → e.on ≠ i) → oi.apart ops ok = true := fun k ok hk hki hun hno => by
        refine hfree k ok hk hki ?_ hno
        by_cases hjk : j = k
        · subst hjk; exact hjun
        · rw [getD_set_ne true hjk] at hun; exact hun
      refine wpOp_mono (fun a' w' h3 => ⟨fun _ => h3.2.1 hjL, ih (listed.setIfInBounds j true) a' w' (down_set hd hj) hfree' (ready_mono hr (Ne.symm hji)) h3.1 (h3.2.1 hjL) ?_⟩) h2
      rw [Array.setIfInBounds_comm _ _ hji]
      exact h3.2.2
theorem wpAnyK_take {i : Nat} {oi : Oper} {v : Value} {fuel : Nat} {listed : Array Bool} {a : Act} {w : World} (l : List Nat) (hi : ops[i]? = some oi) (hc : (chainB md ops (i :: l) && ((i :: l).getLast? == some L) && (i != L) && downB md ops listed && Region.noSelect ops && Region.free md ops listed i && (Region.ready md ops listed).contains i) = true)
    (hQ : ∀ c a w, Q (.panic c) (a.put oi.dst v) w → Q (.panic c) a w) (hy : YieldsIf P ops S oi v a) (hS : S w)
    (h : wpAnyK P md ops Q S L fuel (listed.setIfInBounds i true) (a.put oi.dst v) w) : wpAnyK P md ops Q S L (fuel + 1) listed a w := by
  simp only [Bool.and_eq_true, beq_iff_eq, bne_iff_ne] at hc
  obtain ⟨⟨⟨⟨⟨⟨h1, h2⟩, h3⟩, h4⟩, h5⟩, h6⟩, h7⟩ := hc
  exact wpAnyK_first l h1 h2 h3 hi (Region.noSelect_spec h5) hQ fuel listed a w h4 (Region.free_spec hi h6) (by simpa using h7) hy hS h
theorem wpAnyK_done {listed : Array Bool} {a : Act} {w : World} (hr : Region.ready md ops listed = []) (h : Q .normal a w) : ∀ fuel, wpAnyK P md ops Q S L fuel listed a w
  | 0 => ⟨hr, h⟩
  | _ + 1 => ⟨fun _ => h, by rw [hr]; simp⟩
theorem wp_region_K {id : Nat} {a : Act} {w : World} (S : World → Prop) (L : Nat) (hm : P.follows .mixedOrders = true) (hS : S w.drew) (h : S w.drew → wpAnyK P .any ops Q S L ops.size (Array.replicate ops.size false) a w.drew) : (Code.region id ops true).wp P Q a w :=
  wp_region_any hm (wpAny_of_K _ _ _ _ (h hS))
theorem wpAnyK_one {i : Nat} {o : Oper} {fuel : Nat} {listed : Array Bool} {a : Act} {w : World} (hr : Region.ready md ops listed = [i]) (ho : ops[i]? = some o)
    (h : ∀ K' : Act → World → Prop, Shut (∀ a w, (i ≠ L → S w) → ((i ≠ L → S w) → wpAnyK P md ops Q S L fuel (listed.setIfInBounds i true) a w) → K' a w) → if Region.wanted o (yielded ops a.tmps) = true then Oper.wp P o a w K' Q else K' (a.put o.dst undef) w) :
    wpAnyK P md ops Q S L (fuel + 1) listed a w := by
  refine ⟨(fun h0 => by rw [h0] at hr; cases hr), fun j hj => ?_⟩
  rw [hr] at hj
  rw [List.mem_singleton.1 hj]
  exact wpOp_step ho (fun K' hK => h K' (fun a w hS hW => hK a w ⟨hS, hW hS⟩))
theorem wpAnyK_two {i i' : Nat} {o o' : Oper} {fuel : Nat} {listed : Array Bool} {a : Act} {w : World} (hr : Region.ready md ops listed = [i, i']) (ho : ops[i]? = some o) (ho' : ops[i']? = some o')
    (h : ∀ K' : Act → World → Prop, Shut (∀ a w, (i ≠ L → S w) → ((i ≠ L → S w) → wpAnyK P md ops Q S L fuel (listed.setIfInBounds i true) a w) → K' a w) → if Region.wanted o (yielded ops a.tmps) = true then Oper.wp P o a w K' Q else K' (a.put o.dst undef) w)
    (h' : ∀ K' : Act → World → Prop, Shut (∀ a w, (i' ≠ L → S w) → ((i' ≠ L → S w) → wpAnyK P md ops Q S L fuel (listed.setIfInBounds i' true) a w) → K' a w) → if Region.wanted o' (yielded ops a.tmps) = true then Oper.wp P o' a w K' Q else K' (a.put o'.dst undef) w) :
    wpAnyK P md ops Q S L (fuel + 1) listed a w := by
  refine ⟨(fun h0 => by rw [h0] at hr; cases hr), fun j hj => ?_⟩
  rw [hr] at hj
  rcases List.mem_cons.1 hj with rfl | hj
  · exact wpOp_step ho (fun K' hK => h K' (fun a w hS hW => hK a w ⟨hS, hW hS⟩))
  · rw [List.mem_singleton.1 hj]
    exact wpOp_step ho' (fun K' hK => h' K' (fun a w hS hW => hK a w ⟨hS, hW hS⟩))
end
end Go.Proofs.YtibndaianhlcaaaGreatDoor
namespace Go.Proofs.YtibndaianhlcaaaGreatDoor
open Go.RowKit Go.Sort Go.Shelf
set_option linter.unusedVariables false
set_option linter.unusedSimpArgs false

set_option maxRecDepth 100000 in
set_option maxHeartbeats 2000000 in
theorem eqE21_any {w : World} {B B' : Nat} {A A' : Option Addr} {n n' c c' : Nat} {es fs : List EV} (h : EntsAt w B A n c es) (h' : EntsAt w B' A' n' c' fs) (hB : B ≤ w.heap.size) (hB' : B' ≤ w.heap.size) :
    Calls Tryz.prog 47 #[.slice A n c, .slice A' n' c', .func (.func 48) #[] #[]] w fun e w' => e = .returned (.bool (decide (es.map EV.ent = fs.map EV.ent))) ∧ Below w.heap.size w w' := by
  have hn62 : n ≤ 9223372036854775807 := by have := h.slc.le; have := h.slc.cmax; unfold maxLen at this; omega
  have hL : (es.map EV.ent).length = n := by rw [List.length_map, h.len]
  have hL' : (fs.map EV.ent).length = n' := by rw [List.length_map, h'.len]
  have H := Lib.hid h
  have H' := Lib.hid h'
  have HL := Lib.hid hL
  have HL' := Lib.hid hL'
  by_cases hne : n = n'
  case neg =>
    have HX := Lib.hid (show decide (es.map EV.ent = fs.map EV.ent) = false from decide_eq_false (fun e => hne (by rw [← hL, ← hL', e])))
    have hk : ((n : Int) != (n' : Int)) = true := by simp; omega
    clear h h' hL hL'
    go_enter Tryz.func47, Tryz.ntmps47
    go_wp2
    go_ret
    exact ⟨by rw [HX.out]; rfl, Below.refl _ _⟩
  subst hne
  clear h h' hL hL'
  go_enter Tryz.func47, Tryz.ntmps47
  go_wp2_with (fail)
  go_loopw [17] (fun i wr => ∃ k : Nat, k ≤ n ∧ i = .int .i64 (k : Int) ∧ Aside ((es.map EV.ent).take k = (fs.map EV.ent).take k) ∧ Aside (Below w.heap.size w wr)) (fun i _ => n - (intOf i).toNat)
  case atStart => exact ⟨0, Nat.zero_le _, rfl, rfl, Below.refl _ _⟩
  case round =>
    obtain ⟨k, hk, rfl, hto, hb⟩ := hrel
    by_cases hlt : k < n
    · obtain ⟨b, off, rfl, hbB, hl, c0, c1, c2, hS⟩ := (H.out.below (hb.out.mono hB)).at_ hlt
      obtain ⟨b', off', rfl, hbB', hl', d0, d1, d2, hT⟩ := (H'.out.below (hb.out.mono hB')).at_ hlt
      have hkl : k < (es.map EV.ent).length := by rw [HL.out]; exact hlt
      have hkl' : k < (fs.map EV.ent).length := by rw [HL'.out]; exact hlt
      have HNE := Lib.hid (fun (e : ¬ EV.ent es[k] = EV.ent fs[k]) => take_ne hkl hkl' (by rw [List.getElem_map, List.getElem_map]; exact e))
      have HEQ := Lib.hid (fun (e : EV.ent es[k] = EV.ent fs[k]) => take_more hto.out hkl hkl' (by rw [List.getElem_map, List.getElem_map]; exact e))
      obtain ⟨W2, hW2⟩ : ∃ W2, W2 = (wr.alloc (.cells (evArr es[k]) 35)).alloc (.cells (evArr fs[k]) 35) := ⟨_, rfl⟩
      have hb2 : Below wr.heap.size wr W2 := by rw [hW2]; exact (bel_new _ _).alloc (by simp) _
      have hc := same21_any (w := W2) es[k] fs[k] (hS.below (hb2.mono (Nat.le_trans hB hb.out.size))) (hT.below (hb2.mono (Nat.le_trans hB' hb.out.size))) (Nat.le_trans (Nat.le_trans hB hb.out.size) hb2.size) (Nat.le_trans (Nat.le_trans hB' hb.out.size) hb2.size)
      have hbl : b < wr.heap.size := Nat.lt_of_lt_of_le hbB (Nat.le_trans hB hb.out.size)
      have hbl' : b' < wr.heap.size := Nat.lt_of_lt_of_le hbB' (Nat.le_trans hB' hb.out.size)
      have HBF := Lib.hid (hb.out.trans (hb2.mono hb.out.size))
      generalize es[k] = x at *
      generalize fs[k] = y at *
      have HW2 := Lib.hid hW2
      rw [hW2] at hc
      unfold evArr at hc
      cases hsm : decide (EV.ent x = EV.ent y) with
      | true =>
        have HT := Lib.hid (HEQ.out (of_decide_eq_true hsm))
        rw [show decide (x.ent = y.ent) = true from hsm] at hc
        clear hsm HEQ HNE  hT hkl hkl' hb2 hW2
        go_wp2_with (go_at_call 48; refine hc.mono ?_; clear hc; rintro e4 w4 ⟨rfl, hb4⟩; have HB4 := Lib.hid (HBF.out.trans ((show Below W2.heap.size W2 w4 by rw [HW2.out]; exact hb4).mono HBF.out.size)); clear hb4)
        exact ⟨⟨k + 1, by omega, by go_num, HT.out, HB4.out⟩, by simp [intOf]; omega⟩
      | false =>
        have HX := Lib.hid (show decide (es.map EV.ent = fs.map EV.ent) = false from decide_eq_false (HNE.out (of_decide_eq_false hsm)))
        rw [show decide (x.ent = y.ent) = false from hsm] at hc
        clear hsm HEQ HNE  hT hkl hkl' hb2 hW2
        go_wp2_with (go_at_call 48; refine hc.mono ?_; clear hc; rintro e4 w4 ⟨rfl, hb4⟩; have HB4 := Lib.hid (HBF.out.trans ((show Below W2.heap.size W2 w4 by rw [HW2.out]; exact hb4).mono HBF.out.size)); clear hb4)
        go_ret
        exact ⟨by rw [HX.out]; rfl, HB4.out⟩
    · obtain rfl : k = n := by omega
      have HX := Lib.hid (show decide (es.map EV.ent = fs.map EV.ent) = true from decide_eq_true (take_whole hto.out HL.out HL'.out))
      go_wp2_with (fail)
      go_ret
      exact ⟨by rw [HX.out]; rfl, hb.out⟩
set_option maxRecDepth 100000 in
set_option maxHeartbeats 2000000 in
theorem eqU21_any {w : World} {B B' : Nat} {A A' : Option Addr} {n n' c c' : Nat} {es fs : List SV} (h : UnitsAt w B A n c es) (h' : UnitsAt w B' A' n' c' fs) (hB : B ≤ w.heap.size) (hB' : B' ≤ w.heap.size) :
    Calls Tryz.prog 50 #[.slice A n c, .slice A' n' c', .func (.func 51) #[] #[]] w fun e w' => e = .returned (.bool (decide (es.map SV.srv = fs.map SV.srv))) ∧ Below w.heap.size w w' := by
  have hn62 : n ≤ 9223372036854775807 := by have := h.slc.le; have := h.slc.cmax; unfold maxLen at this; omega
  have hL : (es.map SV.srv).length = n := by rw [List.length_map, h.len]
  have hL' : (fs.map SV.srv).length = n' := by rw [List.length_map, h'.len]
  have H := Lib.hid h
  have H' := Lib.hid h'
  have HL := Lib.hid hL
  have HL' := Lib.hid hL'
  by_cases hne : n = n'
  case neg =>
    have HX := Lib.hid (show decide (es.map SV.srv = fs.map SV.srv) = false from decide_eq_false (fun e => hne (by rw [← hL, ← hL', e])))
    have hk : ((n : Int) != (n' : Int)) = true := by simp; omega
    clear h h' hL hL'
    go_enter Tryz.func50, Tryz.ntmps50
    go_wp2
    go_ret
    exact ⟨by rw [HX.out]; rfl, Below.refl _ _⟩
  subst hne
  clear h h' hL hL'
  go_enter Tryz.func50, Tryz.ntmps50
  go_wp2_with (fail)
  go_loopw [17] (fun i wr => ∃ k : Nat, k ≤ n ∧ i = .int .i64 (k : Int) ∧ Aside ((es.map SV.srv).take k = (fs.map SV.srv).take k) ∧ Aside (Below w.heap.size w wr)) (fun i _ => n - (intOf i).toNat)
  case atStart => exact ⟨0, Nat.zero_le _, rfl, rfl, Below.refl _ _⟩
  case round =>
    obtain ⟨k, hk, rfl, hto, hb⟩ := hrel
    by_cases hlt : k < n
    · obtain ⟨b, off, rfl, hbB, hl, c0, c1, c2, c3, hS, hS2⟩ := (H.out.below (hb.out.mono hB)).at_ hlt
      obtain ⟨b', off', rfl, hbB', hl', d0, d1, d2, d3, hT, hT2⟩ := (H'.out.below (hb.out.mono hB')).at_ hlt
      have hkl : k < (es.map SV.srv).length := by rw [HL.out]; exact hlt
      have hkl' : k < (fs.map SV.srv).length := by rw [HL'.out]; exact hlt
      have HNE := Lib.hid (fun (e : ¬ SV.srv es[k] = SV.srv fs[k]) => take_ne hkl hkl' (by rw [List.getElem_map, List.getElem_map]; exact e))
      have HEQ := Lib.hid (fun (e : SV.srv es[k] = SV.srv fs[k]) => take_more hto.out hkl hkl' (by rw [List.getElem_map, List.getElem_map]; exact e))
      obtain ⟨W2, hW2⟩ : ∃ W2, W2 = (wr.alloc (.cells (svArr es[k]) 59)).alloc (.cells (svArr fs[k]) 59) := ⟨_, rfl⟩
      have hb2 : Below wr.heap.size wr W2 := by rw [hW2]; exact (bel_new _ _).alloc (by simp) _
      have hc := alike21_any (w := W2) (B := w.heap.size) es[k] fs[k] ((hS.below (hb2.mono (Nat.le_trans hB hb.out.size))).more hB) ((hS2.below (hb2.mono (Nat.le_trans hB hb.out.size))).more hB) ((hT.below (hb2.mono (Nat.le_trans hB' hb.out.size))).more hB') ((hT2.below (hb2.mono (Nat.le_trans hB' hb.out.size))).more hB') (Nat.le_trans hb.out.size hb2.size)
      have hbl : b < wr.heap.size := Nat.lt_of_lt_of_le hbB (Nat.le_trans hB hb.out.size)
      have hbl' : b' < wr.heap.size := Nat.lt_of_lt_of_le hbB' (Nat.le_trans hB' hb.out.size)
      have HBF := Lib.hid (hb.out.trans (hb2.mono hb.out.size))
      generalize es[k] = x at *
      generalize fs[k] = y at *
      have HW2 := Lib.hid hW2
      rw [hW2] at hc
      unfold svArr at hc
      cases hsm : decide (SV.srv x = SV.srv y) with
      | true =>
        have HT := Lib.hid (HEQ.out (of_decide_eq_true hsm))
        rw [show decide (x.srv = y.srv) = true from hsm] at hc
        clear hsm HEQ HNE hS hS2 hT hT2 hkl hkl' hb2 hW2
        go_wp2_with (go_at_call 51; refine hc.mono ?_; clear hc; rintro e4 w4 ⟨rfl, hb4⟩; have HB4 := Lib.hid (HBF.out.trans ((show Below W2.heap.size W2 w4 by rw [HW2.out]; exact hb4).mono HBF.out.size)); clear hb4)
        exact ⟨⟨k + 1, by omega, by go_num, HT.out, HB4.out⟩, by simp [intOf]; omega⟩
      | false =>
        have HX := Lib.hid (show decide (es.map SV.srv = fs.map SV.srv) = false from decide_eq_false (HNE.out (of_decide_eq_false hsm)))
        rw [show decide (x.srv = y.srv) = false from hsm] at hc
        clear hsm HEQ HNE hS hS2 hT hT2 hkl hkl' hb2 hW2
        go_wp2_with (go_at_call 51; refine hc.mono ?_; clear hc; rintro e4 w4 ⟨rfl, hb4⟩; have HB4 := Lib.hid (HBF.out.trans ((show Below W2.heap.size W2 w4 by rw [HW2.out]; exact hb4).mono HBF.out.size)); clear hb4)
        go_ret
        exact ⟨by rw [HX.out]; rfl, HB4.out⟩
    · obtain rfl : k = n := by omega
      have HX := Lib.hid (show decide (es.map SV.srv = fs.map SV.srv) = true from decide_eq_true (take_whole hto.out HL.out HL'.out))
      go_wp2_with (fail)
      go_ret
      exact ⟨by rw [HX.out]; rfl, hb.out⟩
set_option maxRecDepth 100000 in
set_option maxHeartbeats 1000000 in
theorem meets21_any {w : World} {B : Nat} {a b : OV} (ha : ObsAt w B a) (hb : ObsAt w B b) (hB : B ≤ w.heap.size) :
    Calls Tryz.prog 17 #[.agg (ovArr a), .agg (ovArr b)] w fun e w' => e = .returned (.bool (sameO a b)) ∧ Below w.heap.size w w' := by
  obtain ⟨A, n, c, es, A2, n2, c2, us, A3, n3, c3, vs⟩ := a
  obtain ⟨A', n', c', es', A2', n2', c2', us', A3', n3', c3', vs'⟩ := b
  obtain ⟨a1, a2, a3⟩ := ha
  obtain ⟨b1, b2, b3⟩ := hb
  unfold ovArr sameO
  simp only at a1 a2 a3 b1 b2 b3 ⊢
  obtain ⟨W1, hW1⟩ : ∃ W1, W1 = (w.alloc (.cells #[.slice A n c, .slice A2 n2 c2, .slice A3 n3 c3] 28)).alloc (.cells #[.slice A' n' c', .slice A2' n2' c2', .slice A3' n3' c3'] 26) := ⟨_, rfl⟩
  have hb1 : Below w.heap.size w W1 := by rw [hW1]; exact (bel_new _ _).alloc (by simp) _
  have hG1 : Blk W1 w.heap.size 28 #[.slice A n c, .slice A2 n2 c2, .slice A3 n3 c3] := by rw [hW1]; exact (Blk.new _ _ _).alloc _
  have hG2 : Blk W1 (w.heap.size + 1) 26 #[.slice A' n' c', .slice A2' n2' c2', .slice A3' n3' c3'] := by
    rw [hW1]
    have := Blk.new (w.alloc (.cells #[.slice A n c, .slice A2 n2 c2, .slice A3 n3 c3] 28)) 26 #[.slice A' n' c', .slice A2' n2' c2', .slice A3' n3' c3']
    rwa [World.size_alloc] at this
  have h1 := eqE21_any (a1.below (hb1.mono hB)) (b1.below (hb1.mono hB)) (Nat.le_trans hB hb1.size) (Nat.le_trans hB hb1.size)
  have H2 := Lib.hid (fun (W : World) (hW : Below W1.heap.size W1 W) => eqS_any (a2.below ((hb1.trans (hW.mono hb1.size)).mono hB)) (b2.below ((hb1.trans (hW.mono hb1.size)).mono hB)))
  have H3 := Lib.hid (fun (W : World) (hW : Below W1.heap.size W1 W) => eqU21_any (a3.below ((hb1.trans (hW.mono hb1.size)).mono hB)) (b3.below ((hb1.trans (hW.mono hb1.size)).mono hB)) (Nat.le_trans hB (hb1.trans (hW.mono hb1.size)).size) (Nat.le_trans hB (hb1.trans (hW.mono hb1.size)).size))
  have HK := Lib.hid (fun (W : World) (hW : Below W1.heap.size W1 W) => show W.cell? ⟨w.heap.size, 1, none⟩ = some (.slice A2 n2 c2) ∧ W.cell? ⟨w.heap.size, 2, none⟩ = some (.slice A3 n3 c3) ∧ W.cell? ⟨w.heap.size + 1, 1, none⟩ = some (.slice A2' n2' c2') ∧ W.cell? ⟨w.heap.size + 1, 2, none⟩ = some (.slice A3' n3' c3') from ⟨(hG1.below hW hG1.lt).cell 1, (hG1.below hW hG1.lt).cell 2, (hG2.below hW hG2.lt).cell 1, (hG2.below hW hG2.lt).cell 2⟩)
  have HB1 := Lib.hid hb1
  have HW1 := Lib.hid hW1
  rw [show decide (es.map EV.ent = es'.map EV.ent) = entsEq (es.map EV.ent) (es'.map EV.ent) by rw [Bool.eq_iff_iff, decide_eq_true_iff, entsEq_iff], hW1] at h1
  clear hG1 hG2 hb1 hW1 a1 a2 a3 b1 b2 b3
  generalize entsEq (es.map EV.ent) (es'.map EV.ent) = x1 at *
  generalize decide (us = us') = x2 at *
  generalize decide (vs.map SV.srv = vs'.map SV.srv) = x3 at *
  cases x1 with
  | false =>
    go_enter Tryz.func17, Tryz.ntmps17
    go_wp2_with (go_at_call 47; refine h1.mono ?_; clear h1; rintro e2 w2 ⟨rfl, hb2⟩; rw [← HW1.out] at hb2)
    go_ret
    exact ⟨rfl, HB1.out.trans (hb2.mono HB1.out.size)⟩
  | true =>
    cases x2 with
    | false =>
      go_enter Tryz.func17, Tryz.ntmps17
      go_wp2_with (first
        | (go_at_call 47; refine h1.mono ?_; clear h1; rintro e2 w2 ⟨rfl, hb2⟩; rw [← HW1.out] at hb2; obtain ⟨k1, k2, k3, k4⟩ := HK.out w2 hb2; have h2 := H2.out w2 hb2)
        | (go_at_call 49; refine h2.mono ?_; clear h2; rintro e3 w3 ⟨rfl, q, rfl⟩))
      go_ret
      exact ⟨rfl, bel_drewN (HB1.out.trans (hb2.mono HB1.out.size)) q⟩
    | true =>
      go_enter Tryz.func17, Tryz.ntmps17
      go_wp2_with (first
        | (go_at_call 47; refine h1.mono ?_; clear h1; rintro e2 w2 ⟨rfl, hb2⟩; rw [← HW1.out] at hb2; obtain ⟨k1, k2, k3, k4⟩ := HK.out w2 hb2; have h2 := H2.out w2 hb2)
        | (go_at_call 49; refine h2.mono ?_; clear h2; rintro e3 w3 ⟨rfl, q, rfl⟩; have hb3 := bel_drewN hb2 q; have h3 := H3.out _ hb3)
        | (go_at_call 50; refine h3.mono ?_; clear h3; rintro e4 w4 ⟨rfl, hb4⟩))
      go_ret
      exact ⟨by cases x3 <;> rfl, HB1.out.trans ((hb3.trans (hb4.mono hb3.size)).mono HB1.out.size)⟩
end Go.Proofs.YtibndaianhlcaaaGreatDoor
