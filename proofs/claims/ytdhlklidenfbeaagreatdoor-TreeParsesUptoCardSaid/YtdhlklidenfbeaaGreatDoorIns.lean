/- A text put into a list: append(append(append([]string{}, l[:at]...), s), l[at:]...), in whatever order its parts are made. -/
import Derived.Test.YtdhlklidenfbeaaGreatDoorTreeRefs
import Derived.Test.YtdhlklidenfbeaaGreatDoorApp
namespace Go.Proofs.YtdhlklidenfbeaaGreatDoor
open Go.RowKit Go.Sort
set_option linter.unusedVariables false
set_option linter.unusedSimpArgs false

/-- append at a step of a region that draws its order, by its run. -/
theorem step_append_eq {P : Program} {ops : Array Oper} {o : Oper} {a : Act} {w w' : World} {K : Act → World → Prop} {Q : Exit → Act → World → Prop} {E : Prop} (hgd : o.guard = none) (s x : Operand) (t : TypeId)
    (ho : o.op = .call { callee := .builtin .append, args := #[s, x], argTypes := #[t, t] }) {v y v' : Value} (hs : a.eval s = v) (hx : a.eval x = y)
    (hrun : (Builtin.append_ #[t, t] o.type #[v, y]).run P w = .ok v' w') (h : K (a.put o.dst v') w') :
    if Region.wanted o (yielded ops a.tmps) = true then Oper.wp P o a w K Q else E := by
  have hw : Region.wanted o (yielded ops a.tmps) = true := by simp [Region.wanted, hgd]
  rw [if_pos hw]
  exact wp_append_run s x t ho hs hx hrun h

theorem step_append_at {P : Program} {ops : Array Oper} {o : Oper} {a : Act} {w w0 w' : World} {K : Act → World → Prop} {Q : Exit → Act → World → Prop} {E : Prop} (hgd : o.guard = none) (s x : Operand) (t : TypeId)
    (ho : o.op = .call { callee := .builtin .append, args := #[s, x], argTypes := #[t, t] }) {v y v' : Value} {ty : TypeId}
    (hrun : (Builtin.append_ #[t, t] ty #[v, y]).run P w0 = .ok v' w') (hw : w = w0) (hty : o.type = ty) (hs : a.eval s = v) (hx : a.eval x = y) (h : K (a.put o.dst v') w') :
    if Region.wanted o (yielded ops a.tmps) = true then Oper.wp P o a w K Q else E := by
  subst hw hty
  exact step_append_eq hgd s x t ho hs hx hrun h

/-- l[k:] as a value: at the end of what it has room for it keeps its address. -/
def tailV (A : Option Addr) (n c k : Nat) : Value := match A with
  | none => .slice none 0 0
  | some a => if k = c then .slice (some a) 0 0 else .slice (some (a.add k)) (n - k) (c - k)
theorem slc_tail {w : World} {B : Nat} {A : Option Addr} {n c : Nat} {xs : List Value} (h : Slc w B 1 A n c xs) {k : Nat} (hk : k ≤ n) : ∃ A' c', tailV A n c k = .slice A' (n - k) c' ∧ Slc w B 1 A' (n - k) c' (xs.drop k) := by
  have hl := h.len
  have hnc := h.le
  have hcm := h.cmax
  unfold tailV
  cases A with
  | none =>
    have h0 : n = 0 := by
      rcases Nat.eq_zero_or_pos n with h0 | h0
      · exact h0
      · obtain ⟨b, off, e, _⟩ := h.at_ h0
        cases e
    refine ⟨none, 0, by simp [h0], ⟨by simp; omega, by omega, Nat.zero_le _, fun hp => by omega⟩⟩
  | some a =>
    by_cases hkc : k = c
    · refine ⟨some a, 0, by simp only [if_pos hkc]; congr 1; omega, ⟨by simp; omega, by omega, Nat.zero_le _, fun hp => by omega⟩⟩
    · simp only [if_neg hkc]
      refine ⟨some (a.add k), c - k, rfl, ⟨by simp; omega, by omega, by omega, fun hp => ?_⟩⟩
      obtain ⟨b, off, e, hb, hc⟩ := h.at_ (by omega)
      injection e with e
      subst e
      refine ⟨b, off + k, by rw [addr_of_add], hb, fun j u hu => ?_⟩
      rw [Nat.add_assoc]
      exact hc (k + j) u (by rwa [List.getElem?_drop] at hu)

theorem ins_one {w W : World} {A : Option Addr} {n c : Nat} {L : List Txt} {B : Nat} (h : Slc w B 1 A n c (L.map encStr)) (hB : B ≤ w.heap.size) {k : Nat} (hk : k ≤ n) (hn : n ≤ 1000000000) {x : Nat} (hb : Below w.heap.size w W) (hx : W.heap[x]? = some (.cells #[] 9 (0, 0))) (hxb : w.heap.size ≤ x) :
    ∃ A1 c1 w1, (Builtin.append_ #[68, 68] 68 #[.slice (some ⟨x, 0, none⟩) 0 0, .slice A k c]).run Tryz.prog W = .ok (.slice A1 k c1) w1 ∧ w1.ownsRow w.heap.size 9 1 (.slice A1 k c1) k ((L.take k).map encStr) ∧ Below w.heap.size w w1 ∧ (∀ y, y < W.heap.size → y ≠ x → w1.heap[y]? = W.heap[y]?) ∧ W.heap.size ≤ w1.heap.size := by
  obtain ⟨i, hi, hz0, hz1, hz2⟩ := info_parts str_info
  have hown : W.ownsRow w.heap.size 9 1 (.slice (some ⟨x, 0, none⟩) 0 0) 0 [] := ⟨rfl, .inr ⟨x, 0, #[], rfl, hxb, hx, Nat.le_refl _, Nat.zero_le _, rfl, rfl⟩⟩
  have hs : Slc W B 1 A k c ((L.map encStr).take k) := (h.below (hb.mono hB)).upto hk
  obtain ⟨A', c', w', h1, h2, h3, h4⟩ := append_slc (P := Tryz.prog) W w.heap.size 68 68 _ i _ 1 16 Tryz.underlying68 hi hz0 hz1 hz2 rfl (by decide) _ 0 [] hown B A k c _ hs (fun u hu => by
    obtain ⟨t, _, rfl⟩ := List.mem_map.1 (List.mem_of_mem_take hu)
    rfl) (by unfold maxLen; omega) (by omega) hb.size
  rw [Nat.zero_add] at h1 h2
  refine ⟨A', c', w', h1, by rw [List.map_take]; exact h2, hb.grown h3 hb.size (fun q hq => by simp [Value.ownBlock] at hq; omega), fun y hy hne => h3.block y hy (fun e => by simp [Value.ownBlock] at e; omega), h3.size⟩
theorem ins_two {w W : World} {A : Option Addr} {n c : Nat} {L : List Txt} {B : Nat} (h : Slc w B 1 A n c (L.map encStr)) (hB : B ≤ w.heap.size) {k : Nat} (hk : k ≤ n) (hn : n ≤ 1000000000) {y : Nat} {s : Txt} {A1 : Option Addr} {c1 : Nat} (hb : Below w.heap.size w W)
    (ho : W.ownsRow w.heap.size 9 1 (.slice A1 k c1) k ((L.take k).map encStr)) (hy : W.heap[y]? = some (.cells #[.string ⟨s.toArray⟩] 9 (0, 0))) :
    ∃ A2 c2 w2 A3 c3 w3, (Builtin.append_ #[68, 68] 68 #[.slice A1 k c1, .slice (some ⟨y, 0, none⟩) 1 1]).run Tryz.prog W = .ok (.slice A2 (k + 1) c2) w2 ∧
      (Builtin.append_ #[68, 68] 68 #[.slice A2 (k + 1) c2, tailV A n c k]).run Tryz.prog w2 = .ok (.slice A3 (n + 1) c3) w3 ∧ w3.ownsRow w.heap.size 9 1 (.slice A3 (n + 1) c3) (n + 1) ((L.take k ++ s :: L.drop k).map encStr) ∧ Below w.heap.size w w3 := by
  obtain ⟨i, hi, hz0, hz1, hz2⟩ := info_parts str_info
  have hB' : Blk W y 9 #[.string ⟨s.toArray⟩] := hy
  have hs : Slc W (y + 1) 1 (some ⟨y, 0, none⟩) 1 1 [encStr s] := by
    have := hB'.slc (sz := 1) (n := 1) (c := 1) (Nat.le_refl _) (Nat.le_refl _) (by decide)
    exact this
  obtain ⟨A2, c2, w2, h1, h2, h3, h4⟩ := append_slc (P := Tryz.prog) W w.heap.size 68 68 _ i _ 1 16 Tryz.underlying68 hi hz0 hz1 hz2 rfl (by decide) _ k _ ho (y + 1) _ 1 1 [encStr s] hs (fun u hu => by rw [List.mem_singleton.1 hu]; rfl) (by unfold maxLen; omega) (by omega) hb.size
  have hb2 := hb.grown h3 hb.size (fun q hq => (ho.lt q hq).1)
  obtain ⟨At, ct, ht, hst⟩ := slc_tail (h.below (hb2.mono hB)) hk
  obtain ⟨A3, c3, w3, g1, g2, g3, g4⟩ := append_slc (P := Tryz.prog) w2 w.heap.size 68 68 _ i _ 1 16 Tryz.underlying68 hi hz0 hz1 hz2 rfl (by decide) _ (k + 1) _ h2 B At (n - k) ct _ hst (fun u hu => by
    obtain ⟨t, _, rfl⟩ := List.mem_map.1 (List.mem_of_mem_drop hu)
    rfl) (by unfold maxLen; omega) (by omega) hb2.size
  rw [show k + 1 + (n - k) = n + 1 by omega] at g1 g2
  refine ⟨A2, c2, w2, A3, c3, w3, h1, by rw [ht]; exact g1, ?_, hb2.grown g3 hb2.size (fun q hq => (h2.lt q hq).1)⟩
  have e : (L.take k).map encStr ++ [encStr s] ++ (L.map encStr).drop k = (L.take k ++ s :: L.drop k).map encStr := by simp
  rwa [e] at g2
/-- The three orders in which the parts may be made. -/
structure Ins3 (w : World) (A : Option Addr) (n c k : Nat) (s : Txt) (L : List Txt) (W : World) (x y : Nat) (A1 : Option Addr) (c1 : Nat) (w1 w1' : World) (A2 : Option Addr) (c2 : Nat) (w2 : World) (A3 : Option Addr) (c3 : Nat) (w3 : World) : Prop where
  r1 : (Builtin.append_ #[68, 68] 68 #[.slice (some ⟨x, 0, none⟩) 0 0, .slice A k c]).run Tryz.prog W = .ok (.slice A1 k c1) w1
  r2 : (Builtin.append_ #[68, 68] 68 #[.slice A1 k c1, .slice (some ⟨y, 0, none⟩) 1 1]).run Tryz.prog w1' = .ok (.slice A2 (k + 1) c2) w2
  r3 : (Builtin.append_ #[68, 68] 68 #[.slice A2 (k + 1) c2, tailV A n c k]).run Tryz.prog w2 = .ok (.slice A3 (n + 1) c3) w3
  own : w3.ownsRow w.heap.size 9 1 (.slice A3 (n + 1) c3) (n + 1) ((L.take k ++ s :: L.drop k).map encStr)
  bel : Below w.heap.size w w3
theorem ins3_a {w : World} {A : Option Addr} {n c : Nat} {L : List Txt} {B : Nat} (h : Slc w B 1 A n c (L.map encStr)) (hB : B ≤ w.heap.size) {k : Nat} (hk : k ≤ n) (hn : n ≤ 1000000000) (s : Txt) :
    ∃ A1 c1 w1 A2 c2 w2 A3 c3 w3, Ins3 w A n c k s L ((w.alloc (.cells #[.string ⟨s.toArray⟩] 9)).alloc (.cells #[] 9)).drew (w.heap.size + 1) w.heap.size A1 c1 w1 w1 A2 c2 w2 A3 c3 w3 := by
  have hb : Below w.heap.size w ((w.drew.alloc (.cells #[.string ⟨s.toArray⟩] 9)).alloc (.cells #[] 9)) := (((Below.refl _ w).drew).alloc (Nat.le_refl _) _).alloc (by simp) _
  obtain ⟨A1, c1, w1, r1, o1, b1, k1, _⟩ := ins_one h hB hk hn (x := w.heap.size + 1) hb (by have := heap_alloc_new (w.drew.alloc (.cells #[.string ⟨s.toArray⟩] 9)) (.cells #[] 9); simpa using this) (by omega)
  have hy : w1.heap[w.heap.size]? = some (.cells #[.string ⟨s.toArray⟩] 9 (0, 0)) := by
    rw [k1 w.heap.size (by simp; omega) (by omega), Below.heap_alloc _ _ _ (by simp)]
    exact heap_alloc_new w.drew _
  obtain ⟨A2, c2, w2, A3, c3, w3, r2, r3, o3, b3⟩ := ins_two h hB hk hn b1 o1 hy
  exact ⟨A1, c1, w1, A2, c2, w2, A3, c3, w3, r1, r2, r3, o3, b3⟩
theorem ins3_b {w : World} {A : Option Addr} {n c : Nat} {L : List Txt} {B : Nat} (h : Slc w B 1 A n c (L.map encStr)) (hB : B ≤ w.heap.size) {k : Nat} (hk : k ≤ n) (hn : n ≤ 1000000000) (s : Txt) :
    ∃ A1 c1 w1 A2 c2 w2 A3 c3 w3, Ins3 w A n c k s L ((w.alloc (.cells #[] 9)).alloc (.cells #[.string ⟨s.toArray⟩] 9)).drew w.heap.size (w.heap.size + 1) A1 c1 w1 w1 A2 c2 w2 A3 c3 w3 := by
  have hb : Below w.heap.size w ((w.drew.alloc (.cells #[] 9)).alloc (.cells #[.string ⟨s.toArray⟩] 9)) := (((Below.refl _ w).drew).alloc (Nat.le_refl _) _).alloc (by simp) _
  obtain ⟨A1, c1, w1, r1, o1, b1, k1, _⟩ := ins_one h hB hk hn (x := w.heap.size) hb (by rw [Below.heap_alloc _ _ _ (by simp)]; exact heap_alloc_new w.drew _) (Nat.le_refl _)
  have hy : w1.heap[w.heap.size + 1]? = some (.cells #[.string ⟨s.toArray⟩] 9 (0, 0)) := by
    rw [k1 (w.heap.size + 1) (by simp) (by omega)]
    have := heap_alloc_new (w.drew.alloc (.cells #[] 9)) (.cells #[.string ⟨s.toArray⟩] 9)
    simpa using this
  obtain ⟨A2, c2, w2, A3, c3, w3, r2, r3, o3, b3⟩ := ins_two h hB hk hn b1 o1 hy
  exact ⟨A1, c1, w1, A2, c2, w2, A3, c3, w3, r1, r2, r3, o3, b3⟩
theorem ins3_c {w : World} {A : Option Addr} {n c : Nat} {L : List Txt} {B : Nat} (h : Slc w B 1 A n c (L.map encStr)) (hB : B ≤ w.heap.size) {k : Nat} (hk : k ≤ n) (hn : n ≤ 1000000000) (s : Txt) :
    ∃ A1 c1 w1 A2 c2 w2 A3 c3 w3, Ins3 w A n c k s L (w.alloc (.cells #[] 9)).drew w.heap.size w1.heap.size A1 c1 w1 (w1.alloc (.cells #[.string ⟨s.toArray⟩] 9)) A2 c2 w2 A3 c3 w3 := by
  have hb : Below w.heap.size w (w.drew.alloc (.cells #[] 9)) := ((Below.refl _ w).drew).alloc (Nat.le_refl _) _
  obtain ⟨A1, c1, w1, r1, o1, b1, k1, _⟩ := ins_one h hB hk hn (x := w.heap.size) hb (heap_alloc_new w.drew _) (Nat.le_refl _)
  have b1' := b1.alloc b1.size (.cells #[.string ⟨s.toArray⟩] 9)
  obtain ⟨A2, c2, w2, A3, c3, w3, r2, r3, o3, b3⟩ := ins_two h hB hk hn b1' (o1.alloc _) (heap_alloc_new w1 (.cells #[.string ⟨s.toArray⟩] 9))
  exact ⟨A1, c1, w1, A2, c2, w2, A3, c3, w3, r1, r2, r3, o3, b3⟩
end Go.Proofs.YtdhlklidenfbeaaGreatDoor
