/- Rows of bytes held one against the other. -/
import Derived.Test.YtmhgahkainmbkaaWalListed
namespace Go.Proofs.Ytmhgahkainmbkaa
open Go.RowKit
set_option linter.unusedVariables false
set_option linter.unusedSimpArgs false

theorem eq_round {P : Program} {e : TypeId} {d : Nat} (he : P.underlying e = some (.int .u8)) (ha : ∀ w, (isAgg e).run P w = .ok false w) {l m : List UInt8} (hlm : l.length = m.length) (w : World) : ∀ (k i : Nat), i + k = l.length →
    ((forIn (m := Sem) (List.range' i k) ((none, ()) : Option Bool × Unit) (fun i __s => do
              let __do_lift ← part e (List.map bv l).toArray i
              let __do_lift_1 ← part e (List.map bv m).toArray i
              let __do_lift ← Op.equalIn (d + 1) e __do_lift __do_lift_1
              if (!__do_lift) = true then pure (ForInStep.done (some false, ())) else pure (ForInStep.yield (none, ())))).run P w) = .ok (if l.drop i = m.drop i then (none, ()) else (some false, ())) w := by
  intro k
  induction k with
  | zero =>
    intro i hi
    rw [List.drop_of_length_le (by omega), List.drop_of_length_le (by omega), if_pos rfl]
    rfl
  | succ k ih =>
    intro i hi
    have h1 : i < l.length := by omega
    have h2 : i < m.length := by omega
    have c1 : (List.map bv l).toArray[i]? = some (bv l[i]) := by simp [h1]
    have c2 : (List.map bv m).toArray[i]? = some (bv m[i]) := by simp [h2]
    rw [List.range'_succ, List.forIn_cons]
    have p1 : (part e (List.map bv l).toArray i).run P w = .ok (bv l[i]) w := by simp only [part, Sem.run_bind, ha, Result.andThen_ok, Bool.false_eq_true, if_false, c1, Sem.run_pure]
    have p2 : (part e (List.map bv m).toArray i).run P w = .ok (bv m[i]) w := by simp only [part, Sem.run_bind, ha, Result.andThen_ok, Bool.false_eq_true, if_false, c2, Sem.run_pure]
    have p3 : (Op.equalIn (d + 1) e (bv l[i]) (bv m[i])).run P w = .ok ((l[i].toNat : Int) == (m[i].toNat : Int)) w := run_equalIn_int w d e .u8 .u8 _ _ he
    simp only [Sem.run_bind, p1, p2, p3, Result.andThen_ok]
    rw [List.drop_eq_getElem_cons h1, List.drop_eq_getElem_cons h2]
    by_cases hx : l[i] = m[i]
    · have hb : ((l[i].toNat : Int) == (m[i].toNat : Int)) = true := by simp [hx]
      rw [hb]
      simp only [Bool.not_true, Bool.false_eq_true, if_false, Sem.run_pure, Result.andThen_ok, List.cons.injEq, hx, true_and]
      exact ih (i + 1) (by omega)
    · have hb : ((l[i].toNat : Int) == (m[i].toNat : Int)) = false := by
        simp only [beq_eq_false_iff_ne, ne_eq]
        intro h
        exact hx (UInt8.toNat_inj.1 (by omega))
      rw [hb]
      simp only [Bool.not_false, if_true, Sem.run_pure, Result.andThen_ok, List.cons.injEq, hx, false_and, if_false]

theorem run_equalIn_bytes {P : Program} {t e : TypeId} {n d : Nat} (ht : P.underlying t = some (.array n e)) (he : P.underlying e = some (.int .u8)) (hs : (P.info? e).map (·.size) = some 1) (ha : ∀ w, (isAgg e).run P w = .ok false w) {l m : List UInt8} (hl : l.length = n) (hm : m.length = n) (w : World) :
    (Op.equalIn (d + 2) t (.agg (l.map bv).toArray) (.agg (m.map bv).toArray)).run P w = .ok (decide (l = m)) w := by
  rw [Op.equalIn]
  simp only [Sem.run_bind, run_underlying ht, Result.andThen_ok, sizeOf, typeInfo, run_program]
  cases hq : P.info? e with
  | none => simp [hq] at hs
  | some i =>
    have hi : i.size = 1 := by simpa [hq] using hs
    simp only [Sem.run_pure, Result.andThen_ok, hi, Nat.mul_one, Std.Legacy.Range.forIn_eq_forIn_range', Std.Legacy.Range.size]
    have := eq_round (P := P) (d := d) he ha (l := l) (m := m) (by omega) w n 0 (by omega)
    simp only [List.drop_zero] at this
    rw [show (n - 0 + 1 - 1) / 1 = n by simp, this]
    by_cases hlm : l = m
    · simp [hlm]
    · simp [hlm]
def EqSecS (t : TypeId) (x y : Value) : Sem Bool := Op.equalIn 10000 t x y
theorem eqsec_mark (x y : Value) : Op.equalIn 10000 80 x y = EqSecS 80 x y := rfl
theorem EqSecS.ok {l m : List UInt8} (hl : l.length = 128) (hm : m.length = 128) (w : World) : (EqSecS 80 (secV l) (secV m)).run Try.prog w = .ok (decide (l = m)) w :=
  run_equalIn_bytes (d := 9998) u_wsector Try.underlying5 byte_size1 (fun w => by kernel_rfl) hl hm w
end Go.Proofs.Ytmhgahkainmbkaa
