/- append of a string onto bytes of the call's own; append at a walk by its run, of two types. -/
import Derived.Test.YtdhlklidenfbeaaGreatDoorBase
import Derived.Lib.AppendStr
namespace Go.Proofs.YtdhlklidenfbeaaGreatDoor
open Go.RowKit
set_option linter.unusedVariables false
set_option linter.unusedSimpArgs false

theorem wp_append_run2 {P : Program} {o : Oper} {a : Act} {K : Act → World → Prop} {Q : Exit → Act → World → Prop} (s x : Operand) (t u : TypeId)
    (ho : o.op = .call { callee := .builtin .append, args := #[s, x], argTypes := #[t, u] }) {w w' : World} {v y v' : Value} (hs : a.eval s = v) (hx : a.eval x = y)
    (hrun : (Builtin.append_ #[t, u] o.type #[v, y]).run P w = .ok v' w') (h : K (a.put o.dst v') w') : o.wp P a w K Q := by
  unfold Oper.wp execOp
  simp only [ho, resolve, invoke, builtin, Sem.run_bind, Sem.run_pure, Result.andThen_ok, List.map_toArray, List.map_cons, List.map_nil, hs, hx, hrun]
  exact h
theorem wpList_append_run2 {P : Program} {ops : Array Oper} {rest : List Oper} {o : Oper} {a : Act} {Q : Exit → Act → World → Prop} (hgd : o.guard = none) (s x : Operand) (t u : TypeId)
    (ho : o.op = .call { callee := .builtin .append, args := #[s, x], argTypes := #[t, u] }) {w w' : World} {v y v' : Value} (hs : a.eval s = v) (hx : a.eval x = y)
    (hrun : (Builtin.append_ #[t, u] o.type #[v, y]).run P w = .ok v' w') (h : wpList P ops Q rest (a.put o.dst v') w') : wpList P ops Q (o :: rest) a w :=
  wpList_plain hgd fun _ hK => wp_append_run2 s x t u ho hs hx hrun (hK _ _ h)

theorem strCells_bv (s : ByteArray) (k : List UInt8) (hs : s.data.toList = k) : Lib.strCells s = k.map bv := by
  unfold Lib.strCells
  rw [hs]
  rfl
/-- append of a string onto bytes of the call's own. -/
theorem append_txt (w : World) (base : Nat) (v : Value) (n : Nat) (l : List UInt8) (hown : w.ownsRow base 5 1 v n (l.map bv)) (s : ByteArray) (k : List UInt8) (hs : s.data.toList = k) (hb : n + k.length ≤ 140737488355328) (hbase : base ≤ w.heap.size) :
    ∃ A' c' w', (Builtin.append_ #[32, 9] 32 #[v, .string s]).run Tryz.prog w = .ok (.slice A' (n + k.length) c') w' ∧ w'.ownsRow base 5 1 (.slice A' (n + k.length) c') (n + k.length) ((l ++ k).map bv) ∧ w.grownBy w' v.ownBlock := by
  obtain ⟨i, hi, hz0, hz1, hz2⟩ := info_parts byte_info
  have hsz : s.size = k.length := by rw [← hs]; rfl
  obtain ⟨v', w', h1, h2, h3, _⟩ := Lib.run_append_own_string (P := Tryz.prog) w base 32 9 32 5 i Tryz.underlying32 Tryz.underlying9 hi hz0 hz1 hz2 v n (l.map bv) hown s (by rw [hsz]; unfold maxLen; omega) (by rw [hsz]; exact hb) hbase
  rw [hsz] at h2
  obtain ⟨A', c', rfl, _⟩ := own_slc h2
  exact ⟨A', c', w', h1, by rw [List.map_append, ← strCells_bv s k hs]; exact h2, h3⟩
/-- What has grown beside a row of the call's own keeps what lies below. -/
theorem grown_below {w w0 w' : World} {base : Nat} {e : TypeId} {size : Nat} {v : Value} {n : Nat} {xs : List Value} (hb : Below base w0 w) (hown : w.ownsRow base e size v n xs) (hbase : base ≤ w.heap.size) (hg : w.grownBy w' v.ownBlock) : Below base w0 w' :=
  hb.grown hg hbase fun q hq => (hown.lt q hq).1

theorem empty_own (w : World) (base : Nat) (hb : base ≤ w.heap.size) : (w.alloc (.cells #[] 5)).ownsRow base 5 1 (.slice (some ⟨w.heap.size, 0, none⟩) 0 0) 0 (([] : List UInt8).map bv) :=
  ⟨rfl, .inr ⟨w.heap.size, 0, #[], rfl, hb, heap_alloc_new w _, Nat.le_refl _, Nat.zero_le _, rfl, rfl⟩⟩
/-- Bytes that can be appended to: of the call's own, or a full row that is read alone. -/
def BufB (w : World) (base : Nat) (A : Option Addr) (n c : Nat) (l : List UInt8) : Prop :=
  w.ownsRow base 5 1 (.slice A n c) n (l.map bv) ∨ (Slc w w.heap.size 1 A n c (l.map bv) ∧ c = n ∧ ∃ g, A = some ⟨g, 0, none⟩)
theorem BufB.below {w w' : World} {base : Nat} {A : Option Addr} {n c : Nat} {l : List UInt8} (h : BufB w base A n c l) (hb : Below w.heap.size w w') : BufB w' base A n c l := by
  rcases h with h | ⟨h1, h2, h3⟩
  · refine .inl ⟨h.1, ?_⟩
    rcases h.2 with hn | ⟨g, cap, cur, e, e1, e2, rest⟩
    · exact .inl hn
    · exact .inr ⟨g, cap, cur, e, e1, by rw [hb.block g (Array.getElem?_eq_some_iff.1 e2).1]; exact e2, rest⟩
  · exact .inr ⟨(h1.below hb).more hb.size, h2, h3⟩
theorem BufB.slc {w : World} {base : Nat} {A : Option Addr} {n c : Nat} {l : List UInt8} (h : BufB w base A n c l) : Slc w w.heap.size 1 A n c (l.map bv) := by
  rcases h with h | h
  · exact own_slc_of h
  · exact h.1
theorem own_txt {w : World} {base : Nat} {A : Option Addr} {n c : Nat} {l : List UInt8} (h : w.ownsRow base 5 1 (.slice A n c) n (l.map bv)) (s : ByteArray) (k : List UInt8) (hs : s.data.toList = k) (hb : n + k.length ≤ 140737488355328) (hbase : base ≤ w.heap.size) :
    ∃ A' n' c' w', (Builtin.append_ #[32, 9] 32 #[.slice A n c, .string s]).run Tryz.prog w = .ok (.slice A' n' c') w' ∧ w'.ownsRow base 5 1 (.slice A' n' c') n' ((l ++ k).map bv) ∧ Below base w w' := by
  obtain ⟨A', c', w', h1, h2, h3⟩ := append_txt w base _ n l h s k hs hb hbase
  exact ⟨A', _, c', w', h1, h2, grown_below (Below.refl _ w) h hbase h3⟩
theorem own_bytes {w : World} {base : Nat} {A : Option Addr} {n c : Nat} {l : List UInt8} (h : w.ownsRow base 5 1 (.slice A n c) n (l.map bv)) {B : Nat} {A2 : Option Addr} {m c2 : Nat} {k : List UInt8} (hk : Slc w B 1 A2 m c2 (k.map bv)) (hb : n + m ≤ 140737488355328) (hbase : base ≤ w.heap.size) :
    ∃ A' n' c' w', (Builtin.append_ #[32, 32] 32 #[.slice A n c, .slice A2 m c2]).run Tryz.prog w = .ok (.slice A' n' c') w' ∧ w'.ownsRow base 5 1 (.slice A' n' c') n' ((l ++ k).map bv) ∧ Below base w w' := by
  obtain ⟨A', c', w', h1, h2, h3, _⟩ := append_bytes w base _ n l h B A2 m c2 k hk hb hbase
  exact ⟨A', _, c', w', h1, h2, grown_below (Below.refl _ w) h hbase h3⟩
set_option maxRecDepth 100000 in
/-- append of a string onto such bytes: behind it they are the call's own. -/
theorem BufB.txt {w : World} {base : Nat} {A : Option Addr} {n c : Nat} {l : List UInt8} (h : BufB w base A n c l) (s : ByteArray) (k : List UInt8) (hs : s.data.toList = k) (hk : 0 < k.length) (hb : n + k.length ≤ 1000000000) (hbase : base ≤ w.heap.size) :
    ∃ A' n' c' w', (Builtin.append_ #[32, 9] 32 #[.slice A n c, .string s]).run Tryz.prog w = .ok (.slice A' n' c') w' ∧ w'.ownsRow base 5 1 (.slice A' n' c') n' ((l ++ k).map bv) ∧ Below base w w' := by
  rcases h with h | ⟨h1, h2, g, h3⟩
  · exact own_txt h s k hs (by omega) hbase
  subst h3
  obtain ⟨i, hi, hz0, hz1, hz2⟩ := info_parts byte_info
  have hsz : s.size = k.length := by rw [← hs]; rfl
  have hl : l.length = n := by have := h1.len; simpa using this
  have holds : ∀ j v, (l.map bv)[j]? = some v → w.cell? ((⟨g, 0, none⟩ : Addr).add j) = some v := fun j v hv => by
    rcases Nat.eq_zero_or_pos n with h0 | h0
    · rw [List.eq_nil_of_length_eq_zero (by omega : l.length = 0)] at hv
      simp at hv
    · obtain ⟨b, off, e1, _, hc⟩ := h1.at_ h0
      injection e1 with e1
      injection e1 with e1 e2
      subst e1 e2
      rw [addr_of_add]
      exact hc j v hv
  have hcap := h1.cmax
  have hfit : Builtin.nextslicecap (n + s.size) c * 1 ≤ 281474976710656 := growslice_fits (by rw [hsz]; omega) (by rw [hsz]; omega)
  have hr := Lib.run_append_grow_string (P := Tryz.prog) w 32 9 32 5 i _ Tryz.underlying32 Tryz.underlying9 hi hz0 ⟨g, 0, none⟩ n c (l.map bv) (by rw [hz1]; simpa using hl) holds s (by rw [hsz]; omega) (by rw [hsz]; omega) (by rw [hz2]; exact hfit)
  have hge := grownCap_ge w (n + s.size) c 5
  have hcm : grownCap w (n + s.size) c 5 ≤ maxLen := grownCap_le_maxLen w (n + s.size) c _ (by rw [hsz]; unfold maxLen; omega)
  have hlen : ((l ++ k).map bv).length = (n + s.size) * 1 := by rw [List.length_map, List.length_append, hl, hsz, Nat.mul_one]
  refine ⟨_, _, _, _, hr, ⟨hlen, .inr ⟨w.heap.size, _, _, rfl, hbase, heap_alloc_new w.drew _, hge, hcm, ?_, ?_⟩⟩, ((Below.refl base w).drew).alloc hbase _⟩
  · have hz3 : (Value.int IntKind.u8 0).cells.size = 1 := rfl
    simp only [Array.size_append, List.size_toArray, size_zeroCells, hz3, List.length_map, hl, Lib.strCells_length]
    omega
  · rw [← hlen, List.map_append, ← strCells_bv s k hs]
    simp only [Array.toList_append]
    exact List.take_left
end Go.Proofs.YtdhlklidenfbeaaGreatDoor
