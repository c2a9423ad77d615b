/- append of a string onto bytes of the call's own; append at a walk by its run, of two types. -/
import Derived.Test.YtdhlklidenfbeaaDoorBase
import Derived.Lib.AppendStr
namespace Go.Proofs.YtdhlklidenfbeaaDoor
open Go.RowKit
set_option linter.unusedVariables false
set_option linter.unusedSimpArgs false

theorem wp_append_run2 {P : Program} {o : Oper} {a : Act} {K : Act → World → Prop} {Q : Exit → Act → World → Prop} (s x : Operand) (t u : TypeId)
    (ho : o.op = .call { callee := .builtin .append, args := #[s, x], argTypes := #[t, u] }) {w w' : World} {v y v' : Value} (hs : a.eval s = v) (hx : a.eval x = y)
    (hrun : (Builtin.append_ #[t, u] o.type #[v, y]).run P w = .ok v' w') (h : K (a.put o.dst v') w') : o.wp P a w K Q := by
  unfold Oper.wp execOp
  simp only [ho, resolve, invoke, builtin, Sem.run_bind, Sem.run_pure, Result.andThen_ok, List.map_toArray, List.map_cons, List.map_nil, hs, hx, hrun]
  exact h
theorem wpList_append_run2 {P : Program} {ops : Array Oper} {rest : List Oper} {o : Oper} {a : Act} {Q : Exit → Act → World → Prop} (hgd : o.guard = none) (s x : Operand) (t u : TypeId)
    (ho : o.op = .call { callee := .builtin .append, args := #[s, x], argTypes := #[t, u] }) {w w' : World} {v y v' : Value} (hs : a.eval s = v) (hx : a.eval x = y)
    (hrun : (Builtin.append_ #[t, u] o.type #[v, y]).run P w = .ok v' w') (h : wpList P ops Q rest (a.put o.dst v') w') : wpList P ops Q (o :: rest) a w :=
  wpList_plain hgd fun _ hK => wp_append_run2 s x t u ho hs hx hrun (hK _ _ h)

theorem strCells_bv (s : ByteArray) (k : List UInt8) (hs : s.data.toList = k) : Lib.strCells s = k.map bv := by
  unfold Lib.strCells
  rw [hs]
  rfl
/-- append of a string onto bytes of the call's own. -/
theorem append_txt (w : World) (base : Nat) (v : Value) (n : Nat) (l : List UInt8) (hown : w.ownsRow base 5 1 v n (l.map bv)) (s : ByteArray) (k : List UInt8) (hs : s.data.toList = k) (hb : n + k.length ≤ 140737488355328) (hbase : base ≤ w.heap.size) :
    ∃ A' c' w', (Builtin.append_ #[42, 9] 42 #[v, .string s]).run Tryd.prog w = .ok (.slice A' (n + k.length) c') w' ∧ w'.ownsRow base 5 1 (.slice A' (n + k.length) c') (n + k.length) ((l ++ k).map bv) ∧ w.grownBy w' v.ownBlock := by
  obtain ⟨i, hi, hz0, hz1, hz2⟩ := info_parts byte_info
  have hsz : s.size = k.length := by rw [← hs]; rfl
  obtain ⟨v', w', h1, h2, h3, _⟩ := Lib.run_append_own_string (P := Tryd.prog) w base 42 9 42 5 i Tryd.underlying42 Tryd.underlying9 hi hz0 hz1 hz2 v n (l.map bv) hown s (by rw [hsz]; unfold maxLen; omega) (by rw [hsz]; exact hb) hbase
  rw [hsz] at h2
  obtain ⟨A', c', rfl, _⟩ := own_slc h2
  exact ⟨A', c', w', h1, by rw [List.map_append, ← strCells_bv s k hs]; exact h2, h3⟩
/-- What has grown beside a row of the call's own keeps what lies below. -/
theorem grown_below {w w0 w' : World} {base : Nat} {e : TypeId} {size : Nat} {v : Value} {n : Nat} {xs : List Value} (hb : Below base w0 w) (hown : w.ownsRow base e size v n xs) (hbase : base ≤ w.heap.size) (hg : w.grownBy w' v.ownBlock) : Below base w0 w' :=
  hb.grown hg hbase fun q hq => (hown.lt q hq).1
end Go.Proofs.YtdhlklidenfbeaaDoor
