/- Plain facts on sums and hexadecimal texts: no program in sight. -/
import Derived.Laws.BitsAllLaws
import Derived.Laws.Wrap64
namespace Go.Proofs.YtdhlklidenfbeaaGreatDoor

/-- What Update computes. -/
def upd (s : UInt64) (c : UInt8) : UInt64 := (s ^^^ c.toUInt64) * 1099511628211
def updAll (s : UInt64) (l : List UInt8) : UInt64 := l.foldl upd s

theorem updAll_take (s : UInt64) (l : List UInt8) (k : Nat) (h : k < l.length) : updAll s (l.take (k + 1)) = upd (updAll s (l.take k)) l[k] := by
  unfold updAll
  rw [List.take_succ_eq_append_getElem h, List.foldl_append]; rfl

theorem updAll_append (s : UInt64) (l m : List UInt8) : updAll s (l ++ m) = updAll (updAll s l) m := by
  unfold updAll; rw [List.foldl_append]

theorem u64_lt (s : UInt64) : s.toNat < 18446744073709551616 := s.toNat_lt
theorem u8_lt (c : UInt8) : c.toNat < 256 := c.toNat_lt

theorem wrap_u64 (n : Int) : IntKind.u64.wrap n = n % 18446744073709551616 := by simp [IntKind.wrap, IntKind.bits, IntKind.signed]
theorem wrap_u64_nat (n : Nat) (h : n < 18446744073709551616) : IntKind.u64.wrap (n : Int) = n := by rw [wrap_u64]; omega

theorem upd_wrap (t : UInt64) (c : UInt8) :
    IntKind.u64.wrap (bits BinOp.xor IntKind.u64 (t.toNat : Int) (IntKind.u64.wrap (c.toNat : Int)) * 1099511628211) = ((upd t c).toNat : Int) := by
  rw [wrap_u64_nat c.toNat (by have := u8_lt c; omega), u64_xor_nat _ _ (u64_lt t) (by have := u8_lt c; omega), wrap_u64]
  unfold upd
  rw [UInt64.toNat_mul, UInt64.toNat_xor]
  have e1 : (c.toUInt64).toNat = c.toNat := by simp
  rw [e1]
  have e2 : (1099511628211 : UInt64).toNat = 1099511628211 := rfl
  rw [e2]
  generalize t.toNat ^^^ c.toNat = x
  omega

theorem upd_wrap' (t : UInt64) (c : UInt8) :
    IntKind.u64.wrap (bits BinOp.xor IntKind.u64 (t.toNat : Int) (c.toNat : Int) * 1099511628211) = ((upd t c).toNat : Int) := by
  rw [← upd_wrap, wrap_u64_nat c.toNat (by have := u8_lt c; omega)]

/-- One byte that is changed is seen: each step is one to one in the sum, and in the byte. -/
theorem upd_inj_left {s t : UInt64} {c : UInt8} (h : upd s c = upd t c) : s = t := by
  unfold upd at h
  have hx : (s ^^^ c.toUInt64) * 1099511628211 * 14886173955864302971 = (t ^^^ c.toUInt64) * 1099511628211 * 14886173955864302971 := by rw [h]
  have h1 : (1099511628211 : UInt64) * 14886173955864302971 = 1 := by decide
  rw [UInt64.mul_assoc, UInt64.mul_assoc, h1, UInt64.mul_one, UInt64.mul_one] at hx
  have := congrArg (· ^^^ c.toUInt64) hx
  simpa [UInt64.xor_assoc] using this

theorem upd_inj_right {s : UInt64} {c d : UInt8} (h : upd s c = upd s d) : c = d := by
  unfold upd at h
  have hx : (s ^^^ c.toUInt64) * 1099511628211 * 14886173955864302971 = (s ^^^ d.toUInt64) * 1099511628211 * 14886173955864302971 := by rw [h]
  have h1 : (1099511628211 : UInt64) * 14886173955864302971 = 1 := by decide
  rw [UInt64.mul_assoc, UInt64.mul_assoc, h1, UInt64.mul_one, UInt64.mul_one] at hx
  have := congrArg (s ^^^ ·) hx
  simp [← UInt64.xor_assoc] at this
  exact UInt8.toNat_inj.1 (by simpa using congrArg UInt64.toNat this)

theorem updAll_inj (l : List UInt8) : ∀ {s t : UInt64}, updAll s l = updAll t l → s = t := by
  induction l with
  | nil => intro s t h; exact h
  | cons c l ih => intro s t h; exact upd_inj_left (ih h)

theorem updAll_seen (s : UInt64) (l : List UInt8) (i : Nat) (c : UInt8) (hi : i < l.length) (h : c ≠ l[i]) : updAll s (l.set i c) ≠ updAll s l := by
  intro he
  have e1 : l.set i c = l.take i ++ c :: l.drop (i + 1) := by rw [List.set_eq_take_append_cons_drop, if_pos hi]
  have e2 : l = l.take i ++ l[i] :: l.drop (i + 1) := by simp
  rw [e1] at he
  conv at he => rhs; rw [e2]
  rw [updAll_append, updAll_append] at he
  exact h (upd_inj_right (updAll_inj _ he))

/-- A digit. -/
def dig (d : Nat) : UInt8 := if d < 10 then UInt8.ofNat (48 + d) else UInt8.ofNat (87 + d)
/-- The n lowest digits of s. -/
def hexl : Nat → Nat → List UInt8
  | 0, _ => []
  | n + 1, s => hexl n (s / 16) ++ [dig (s % 16)]

theorem hexl_length (n : Nat) : ∀ s, (hexl n s).length = n := by
  induction n with
  | zero => intro s; rfl
  | succ n ih => intro s; simp [hexl, ih]

theorem hexl_succ (n : Nat) : ∀ s, hexl (n + 1) s = dig (s / 16 ^ n % 16) :: hexl n s := by
  induction n with
  | zero => intro s; simp [hexl]
  | succ n ih =>
    intro s
    rw [show hexl (n + 1 + 1) s = hexl (n + 1) (s / 16) ++ [dig (s % 16)] from rfl, ih (s / 16), Nat.div_div_eq_div_mul,
      show hexl (n + 1) s = hexl n (s / 16) ++ [dig (s % 16)] from rfl, Nat.pow_succ, Nat.mul_comm (16 ^ n) 16]
    rfl

/-- What a digit is worth. -/
def val (c : UInt8) : Option Nat :=
  if 48 ≤ c.toNat ∧ c.toNat ≤ 57 then some (c.toNat - 48) else if 97 ≤ c.toNat ∧ c.toNat ≤ 102 then some (c.toNat - 87) else none

theorem val_dig (d : Nat) (h : d < 16) : val (dig d) = some d := by
  have : ∀ d : Fin 16, val (dig d) = some d.val := by decide
  exact this ⟨d, h⟩
theorem val_some {c : UInt8} {d : Nat} (h : val c = some d) : d < 16 ∧ dig d = c := by
  have : ∀ n : Fin 256, ∀ d, val (UInt8.ofNat n) = some d → d < 16 ∧ dig d = UInt8.ofNat n := by
    intro n d hd
    have hn := n.isLt
    unfold val at hd
    have e : (UInt8.ofNat (n : Nat)).toNat = n := by simp
    rw [e] at hd
    split at hd
    · injection hd with hd; subst hd; rename_i hh; refine ⟨by omega, ?_⟩
      unfold dig; rw [if_pos (by omega)]; congr 1; try omega
    · split at hd
      · injection hd with hd; subst hd; rename_i hh; refine ⟨by omega, ?_⟩
        unfold dig; rw [if_neg (by omega)]; congr 1; try omega
      · cases hd
  have h2 := this ⟨c.toNat, c.toNat_lt⟩ d
  simp at h2
  exact h2 h

/-- The number of a row of digits, on top of s. -/
def hexVal : Nat → List UInt8 → Option Nat
  | s, [] => some s
  | s, c :: l => match val c with
    | none => none
    | some d => hexVal (s * 16 + d) l

theorem hexVal_append (l m : List UInt8) : ∀ s, hexVal s (l ++ m) = (hexVal s l).bind fun t => hexVal t m := by
  induction l with
  | nil => intro s; rfl
  | cons c l ih => intro s; simp only [List.cons_append, hexVal]; cases val c <;> simp [ih]

theorem hexVal_hexl (n : Nat) : ∀ t s, hexVal t (hexl n s) = some (t * 16 ^ n + s % 16 ^ n) := by
  induction n with
  | zero => intro t s; simp [hexl, hexVal, Nat.mod_one]
  | succ n ih =>
    intro t s
    rw [show hexl (n + 1) s = hexl n (s / 16) ++ [dig (s % 16)] from rfl, hexVal_append, ih]
    simp only [Option.bind_some, hexVal, val_dig _ (Nat.mod_lt s (by decide : 0 < 16))]
    congr 1
    rw [Nat.pow_succ, Nat.mul_comm (16 ^ n) 16, Nat.mod_mul, Nat.add_mul]
    have : t * (16 * 16 ^ n) = t * 16 ^ n * 16 := by rw [Nat.mul_comm 16, Nat.mul_assoc]
    omega

theorem hexVal_lt (l : List UInt8) : ∀ s t, hexVal s l = some t → t < (s + 1) * 16 ^ l.length ∧ hexl l.length t = l ∧ t / 16 ^ l.length = s := by
  induction l with
  | nil => intro s t h; injection h with h; subst h; simp [hexl]
  | cons c l ih =>
    intro s t h
    simp only [hexVal] at h
    cases hv : val c with
    | none => rw [hv] at h; cases h
    | some d =>
      rw [hv] at h
      obtain ⟨h1, h2⟩ := val_some hv
      obtain ⟨i1, i2, i3⟩ := ih _ _ h
      refine ⟨?_, ?_, ?_⟩
      · have : (s * 16 + d + 1) * 16 ^ l.length ≤ (s + 1) * 16 ^ (c :: l).length := by
          rw [List.length_cons, Nat.pow_succ, Nat.mul_comm (16 ^ _) 16, ← Nat.mul_assoc]
          exact Nat.mul_le_mul_right _ (by omega)
        omega
      · rw [List.length_cons, hexl_succ, i2, i3, show (s * 16 + d) % 16 = d by omega, h2]
      · rw [List.length_cons, Nat.pow_succ, ← Nat.div_div_eq_div_mul, i3]; omega

/-- What Parse answers. -/
def parsed (l : List UInt8) : Option Nat := if l.length = 16 then hexVal 0 l else none
end Go.Proofs.YtdhlklidenfbeaaGreatDoor
