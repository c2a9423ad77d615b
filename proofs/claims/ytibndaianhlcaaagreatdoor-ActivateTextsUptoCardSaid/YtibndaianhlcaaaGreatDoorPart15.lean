/- A text put into a list: append(append(append([]string{}, l[:at]...), s), l[at:]...), in whatever order its parts are made. machine.may. -/
import Derived.Test.YtibndaianhlcaaaGreatDoorPart9
import Derived.Test.YtibndaianhlcaaaGreatDoorPart10
import Derived.Test.YtibndaianhlcaaaGreatDoorPart14
import Derived.Test.YtibndaianhlcaaaGreatDoorPart2
namespace Go.Proofs.YtibndaianhlcaaaGreatDoor
open Go.RowKit Go.Sort
set_option linter.unusedVariables false
set_option linter.unusedSimpArgs false

/-- append at a step of a region that draws its order, by its run. -/
theorem step_append_eq {P : Program} {ops : Array Oper} {o : Oper} {a : Act} {w w' : World} {K : Act → World → Prop} {Q : Exit → Act → World → Prop} {E : Prop} (hgd : o.guard = none) (s x : Operand) (t : TypeId)
    (ho : o.op = .call { callee := .builtin .append, args := #[s, x], argTypes := #[t, t] }) {v y v' : Value} (hs : a.eval s = v) (hx : a.eval x = y)
    (hrun : (Builtin.append_ #[t, t] o.type #[v, y]).run P w = .ok v' w') (h : K (a.put o.dst v') w') :
    if Region.wanted o (yielded ops a.tmps) = true then Oper.wp P o a w K Q else E := by
  have hw : Region.wanted o (yielded ops a.tmps) = true := by simp [Region.wanted, hgd]
  rw [if_pos hw]
  exact wp_append_run s x t ho hs hx hrun h

theorem step_append_at {P : Program} {ops : Array Oper} {o : Oper} {a : Act} {w w0 w' : World} {K : Act → World → Prop} {Q : Exit → Act → World → Prop} {E : Prop} (hgd : o.guard = none) (s x : Operand) (t : TypeId)
    (ho : o.op = .call { callee := .builtin .append, args := #[s, x], argTypes := #[t, t] }) {v y v' : Value} {ty : TypeId}
    (hrun : (Builtin.append_ #[t, t] ty #[v, y]).run P w0 = .ok v' w') (hw : w = w0) (hty : o.type = ty) (hs : a.eval s = v) (hx : a.eval x = y) (h : K (a.put o.dst v') w') :
    if Region.wanted o (yielded ops a.tmps) = true then Oper.wp P o a w K Q else E := by
  subst hw hty
  exact step_append_eq hgd s x t ho hs hx hrun h

/-- l[k:] as a value: at the end of what it has room for it keeps its address. -/
def tailV (A : Option Addr) (n c k : Nat) : Value := match A with
  | none => .slice none 0 0
  | some a => if k = c then .slice (some a) 0 0 else .slice (some (a.add k)) (n - k) (c - k)
theorem slc_tail {w : World} {B : Nat} {A : Option Addr} {n c : Nat} {xs : List Value} (h : Slc w B 1 A n c xs) {k : Nat} (hk : k ≤ n) : ∃ A' c', tailV A n c k = .slice A' (n - k) c' ∧ Slc w B 1 A' (n - k) c' (xs.drop k) := by
  have hl := h.len
  have hnc := h.le
  have hcm := h.cmax
  unfold tailV
  cases A with
  | none =>
    have h0 : n = 0 := by
      rcases Nat.eq_zero_or_pos n with h0 | h0
      · exact h0
      · obtain ⟨b, off, e, _⟩ := h.at_ h0
        cases e
    refine ⟨none, 0, by simp [h0], ⟨by simp; omega, by omega, Nat.zero_le _, fun hp => by omega⟩⟩
  | some a =>
    by_cases hkc : k = c
    · refine ⟨some a, 0, by simp only [if_pos hkc]; congr 1; omega, ⟨by simp; omega, by omega, Nat.zero_le _, fun hp => by omega⟩⟩
    · simp only [if_neg hkc]
      refine ⟨some (a.add k), c - k, rfl, ⟨by simp; omega, by omega, by omega, fun hp => ?_⟩⟩
      obtain ⟨b, off, e, hb, hc⟩ := h.at_ (by omega)
      injection e with e
      subst e
      refine ⟨b, off + k, by rw [addr_of_add], hb, fun j u hu => ?_⟩
      rw [Nat.add_assoc]
      exact hc (k + j) u (by rwa [List.getElem?_drop] at hu)

theorem ins_one {w W : World} {A : Option Addr} {n c : Nat} {L : List Txt} {B : Nat} (h : Slc w B 1 A n c (L.map encStr)) (hB : B ≤ w.heap.size) {k : Nat} (hk : k ≤ n) (hn : n ≤ 1000000000) {x : Nat} (hb : Below w.heap.size w W) (hx : W.heap[x]? = some (.cells #[] 9 (0, 0))) (hxb : w.heap.size ≤ x) :
    ∃ A1 c1 w1, (Builtin.append_ #[23, 23] 23 #[.slice (some ⟨x, 0, none⟩) 0 0, .slice A k c]).run Tryz.prog W = .ok (.slice A1 k c1) w1 ∧ w1.ownsRow w.heap.size 9 1 (.slice A1 k c1) k ((L.take k).map encStr) ∧ Below w.heap.size w w1 ∧ (∀ y, y < W.heap.size → y ≠ x → w1.heap[y]? = W.heap[y]?) ∧ W.heap.size ≤ w1.heap.size := by
  obtain ⟨i, hi, hz0, hz1, hz2⟩ := info_parts str_info
  have hown : W.ownsRow w.heap.size 9 1 (.slice (some ⟨x, 0, none⟩) 0 0) 0 [] := ⟨rfl, .inr ⟨x, 0, #[], rfl, hxb, hx, Nat.le_refl _, Nat.zero_le _, rfl, rfl⟩⟩
  have hs : Slc W B 1 A k c ((L.map encStr).take k) := (h.below (hb.mono hB)).upto hk
  obtain ⟨A', c', w', h1, h2, h3, h4⟩ := append_slc (P := Tryz.prog) W w.heap.size 23 23 _ i _ 1 16 Tryz.underlying23 hi hz0 hz1 hz2 rfl (by decide) _ 0 [] hown B A k c _ hs (fun u hu => by
    obtain ⟨t, _, rfl⟩ := List.mem_map.1 (List.mem_of_mem_take hu)
    rfl) (by unfold maxLen; omega) (by omega) hb.size
  rw [Nat.zero_add] at h1 h2
  refine ⟨A', c', w', h1, by rw [List.map_take]; exact h2, hb.grown h3 hb.size (fun q hq => by simp [Value.ownBlock] at hq; omega), fun y hy hne => h3.block y hy (fun e => by simp [Value.ownBlock] at e; omega), h3.size⟩
theorem ins_two {w W : World} {A : Option Addr} {n c : Nat} {L : List Txt} {B : Nat} (h : Slc w B 1 A n c (L.map encStr)) (hB : B ≤ w.heap.size) {k : Nat} (hk : k ≤ n) (hn : n ≤ 1000000000) {y : Nat} {s : Txt} {A1 : Option Addr} {c1 : Nat} (hb : Below w.heap.size w W)
    (ho : W.ownsRow w.heap.size 9 1 (.slice A1 k c1) k ((L.take k).map encStr)) (hy : W.heap[y]? = some (.cells #[.string ⟨s.toArray⟩] 9 (0, 0))) :
    ∃ A2 c2 w2 A3 c3 w3, (Builtin.append_ #[23, 23] 23 #[.slice A1 k c1, .slice (some ⟨y, 0, none⟩) 1 1]).run Tryz.prog W = .ok (.slice A2 (k + 1) c2) w2 ∧
      (Builtin.append_ #[23, 23] 23 #[.slice A2 (k + 1) c2, tailV A n c k]).run Tryz.prog w2 = .ok (.slice A3 (n + 1) c3) w3 ∧ w3.ownsRow w.heap.size 9 1 (.slice A3 (n + 1) c3) (n + 1) ((L.take k ++ s :: L.drop k).map encStr) ∧ Below w.heap.size w w3 := by
  obtain ⟨i, hi, hz0, hz1, hz2⟩ := info_parts str_info
  have hB' : Blk W y 9 #[.string ⟨s.toArray⟩] := hy
  have hs : Slc W (y + 1) 1 (some ⟨y, 0, none⟩) 1 1 [encStr s] := by
    have := hB'.slc (sz := 1) (n := 1) (c := 1) (Nat.le_refl _) (Nat.le_refl _) (by decide)
    exact this
  obtain ⟨A2, c2, w2, h1, h2, h3, h4⟩ := append_slc (P := Tryz.prog) W w.heap.size 23 23 _ i _ 1 16 Tryz.underlying23 hi hz0 hz1 hz2 rfl (by decide) _ k _ ho (y + 1) _ 1 1 [encStr s] hs (fun u hu => by rw [List.mem_singleton.1 hu]; rfl) (by unfold maxLen; omega) (by omega) hb.size
  have hb2 := hb.grown h3 hb.size (fun q hq => (ho.lt q hq).1)
  obtain ⟨At, ct, ht, hst⟩ := slc_tail (h.below (hb2.mono hB)) hk
  obtain ⟨A3, c3, w3, g1, g2, g3, g4⟩ := append_slc (P := Tryz.prog) w2 w.heap.size 23 23 _ i _ 1 16 Tryz.underlying23 hi hz0 hz1 hz2 rfl (by decide) _ (k + 1) _ h2 B At (n - k) ct _ hst (fun u hu => by
    obtain ⟨t, _, rfl⟩ := List.mem_map.1 (List.mem_of_mem_drop hu)
    rfl) (by unfold maxLen; omega) (by omega) hb2.size
  rw [show k + 1 + (n - k) = n + 1 by omega] at g1 g2
  refine ⟨A2, c2, w2, A3, c3, w3, h1, by rw [ht]; exact g1, ?_, hb2.grown g3 hb2.size (fun q hq => (h2.lt q hq).1)⟩
  have e : (L.take k).map encStr ++ [encStr s] ++ (L.map encStr).drop k = (L.take k ++ s :: L.drop k).map encStr := by simp
  rwa [e] at g2
/-- The three orders in which the parts may be made. -/
structure Ins3 (w : World) (A : Option Addr) (n c k : Nat) (s : Txt) (L : List Txt) (W : World) (x y : Nat) (A1 : Option Addr) (c1 : Nat) (w1 w1' : World) (A2 : Option Addr) (c2 : Nat) (w2 : World) (A3 : Option Addr) (c3 : Nat) (w3 : World) : Prop where
  r1 : (Builtin.append_ #[23, 23] 23 #[.slice (some ⟨x, 0, none⟩) 0 0, .slice A k c]).run Tryz.prog W = .ok (.slice A1 k c1) w1
  r2 : (Builtin.append_ #[23, 23] 23 #[.slice A1 k c1, .slice (some ⟨y, 0, none⟩) 1 1]).run Tryz.prog w1' = .ok (.slice A2 (k + 1) c2) w2
  r3 : (Builtin.append_ #[23, 23] 23 #[.slice A2 (k + 1) c2, tailV A n c k]).run Tryz.prog w2 = .ok (.slice A3 (n + 1) c3) w3
  own : w3.ownsRow w.heap.size 9 1 (.slice A3 (n + 1) c3) (n + 1) ((L.take k ++ s :: L.drop k).map encStr)
  bel : Below w.heap.size w w3
theorem ins3_a {w : World} {A : Option Addr} {n c : Nat} {L : List Txt} {B : Nat} (h : Slc w B 1 A n c (L.map encStr)) (hB : B ≤ w.heap.size) {k : Nat} (hk : k ≤ n) (hn : n ≤ 1000000000) (s : Txt) :
    ∃ A1 c1 w1 A2 c2 w2 A3 c3 w3, Ins3 w A n c k s L ((w.alloc (.cells #[.string ⟨s.toArray⟩] 9)).alloc (.cells #[] 9)).drew (w.heap.size + 1) w.heap.size A1 c1 w1 w1 A2 c2 w2 A3 c3 w3 := by
  have hb : Below w.heap.size w ((w.drew.alloc (.cells #[.string ⟨s.toArray⟩] 9)).alloc (.cells #[] 9)) := (((Below.refl _ w).drew).alloc (Nat.le_refl _) _).alloc (by simp) _
  obtain ⟨A1, c1, w1, r1, o1, b1, k1, _⟩ := ins_one h hB hk hn (x := w.heap.size + 1) hb (by have := heap_alloc_new (w.drew.alloc (.cells #[.string ⟨s.toArray⟩] 9)) (.cells #[] 9); simpa using this) (by omega)
  have hy : w1.heap[w.heap.size]? = some (.cells #[.string ⟨s.toArray⟩] 9 (0, 0)) := by
    rw [k1 w.heap.size (by simp; omega) (by omega), Below.heap_alloc _ _ _ (by simp)]
    exact heap_alloc_new w.drew _
  obtain ⟨A2, c2, w2, A3, c3, w3, r2, r3, o3, b3⟩ := ins_two h hB hk hn b1 o1 hy
  exact ⟨A1, c1, w1, A2, c2, w2, A3, c3, w3, r1, r2, r3, o3, b3⟩
theorem ins3_b {w : World} {A : Option Addr} {n c : Nat} {L : List Txt} {B : Nat} (h : Slc w B 1 A n c (L.map encStr)) (hB : B ≤ w.heap.size) {k : Nat} (hk : k ≤ n) (hn : n ≤ 1000000000) (s : Txt) :
    ∃ A1 c1 w1 A2 c2 w2 A3 c3 w3, Ins3 w A n c k s L ((w.alloc (.cells #[] 9)).alloc (.cells #[.string ⟨s.toArray⟩] 9)).drew w.heap.size (w.heap.size + 1) A1 c1 w1 w1 A2 c2 w2 A3 c3 w3 := by
  have hb : Below w.heap.size w ((w.drew.alloc (.cells #[] 9)).alloc (.cells #[.string ⟨s.toArray⟩] 9)) := (((Below.refl _ w).drew).alloc (Nat.le_refl _) _).alloc (by simp) _
  obtain ⟨A1, c1, w1, r1, o1, b1, k1, _⟩ := ins_one h hB hk hn (x := w.heap.size) hb (by rw [Below.heap_alloc _ _ _ (by simp)]; exact heap_alloc_new w.drew _) (Nat.le_refl _)
  have hy : w1.heap[w.heap.size + 1]? = some (.cells #[.string ⟨s.toArray⟩] 9 (0, 0)) := by
    rw [k1 (w.heap.size + 1) (by simp) (by omega)]
    have := heap_alloc_new (w.drew.alloc (.cells #[] 9)) (.cells #[.string ⟨s.toArray⟩] 9)
    simpa using this
  obtain ⟨A2, c2, w2, A3, c3, w3, r2, r3, o3, b3⟩ := ins_two h hB hk hn b1 o1 hy
  exact ⟨A1, c1, w1, A2, c2, w2, A3, c3, w3, r1, r2, r3, o3, b3⟩
theorem ins3_c {w : World} {A : Option Addr} {n c : Nat} {L : List Txt} {B : Nat} (h : Slc w B 1 A n c (L.map encStr)) (hB : B ≤ w.heap.size) {k : Nat} (hk : k ≤ n) (hn : n ≤ 1000000000) (s : Txt) :
    ∃ A1 c1 w1 A2 c2 w2 A3 c3 w3, Ins3 w A n c k s L (w.alloc (.cells #[] 9)).drew w.heap.size w1.heap.size A1 c1 w1 (w1.alloc (.cells #[.string ⟨s.toArray⟩] 9)) A2 c2 w2 A3 c3 w3 := by
  have hb : Below w.heap.size w (w.drew.alloc (.cells #[] 9)) := ((Below.refl _ w).drew).alloc (Nat.le_refl _) _
  obtain ⟨A1, c1, w1, r1, o1, b1, k1, _⟩ := ins_one h hB hk hn (x := w.heap.size) hb (heap_alloc_new w.drew _) (Nat.le_refl _)
  have b1' := b1.alloc b1.size (.cells #[.string ⟨s.toArray⟩] 9)
  obtain ⟨A2, c2, w2, A3, c3, w3, r2, r3, o3, b3⟩ := ins_two h hB hk hn b1' (o1.alloc _) (heap_alloc_new w1 (.cells #[.string ⟨s.toArray⟩] 9))
  exact ⟨A1, c1, w1, A2, c2, w2, A3, c3, w3, r1, r2, r3, o3, b3⟩
end Go.Proofs.YtibndaianhlcaaaGreatDoor
namespace Go.Proofs.YtibndaianhlcaaaGreatDoor
open Go.RowKit Go.Sort Go.Shelf
set_option linter.unusedVariables false
set_option linter.unusedSimpArgs false

theorem strs_one20 (l : List Txt) : ∀ u ∈ l.map encStr, u.oneCell' = true := by
  intro u hu
  obtain ⟨c, _, rfl⟩ := List.mem_map.1 hu
  rfl
def badR (x : Nat) : Bool := decide (x < 32 ∨ 126 < x)
theorem decodeN_high (n b0 b1 b2 b3 : Nat) (h : 128 ≤ b0) : 128 ≤ (Lib.decodeN n b0 b1 b2 b3).1 := by
  unfold Lib.decodeN
  rw [if_neg (by omega)]
  repeat' split
  all_goals simp only
  all_goals omega
theorem decodeN_low (n b0 b1 b2 b3 : Nat) (h : b0 < 128) : Lib.decodeN n b0 b1 b2 b3 = (b0, 1) := by
  unfold Lib.decodeN
  rw [if_pos h]
theorem get_txt (t : Txt) (i : Nat) (h : i < t.length) : (ByteArray.mk t.toArray).get! i = t[i] := by
  simp [ByteArray.get!, h]
theorem bad_print (c : UInt8) : badR c.toNat = !printB c := by
  unfold badR printB
  by_cases h : 32 ≤ c.toNat ∧ c.toNat ≤ 126
  · rw [decide_eq_true h, decide_eq_false (by omega)]; rfl
  · rw [decide_eq_false h, decide_eq_true (by omega)]; rfl
theorem idx_print (t : Txt) : ∀ (f pos : Nat), t.length ≤ pos + f → (Lib.idxFuncFrom badR true ⟨t.toArray⟩ f pos < 0 ↔ (t.drop pos).all printB = true)
  | 0, pos, h => by
    rw [List.drop_eq_nil_of_le (by omega)]
    simp [Lib.idxFuncFrom]
  | f + 1, pos, h => by
    have hsz : (ByteArray.mk t.toArray).size = t.length := by simp [ByteArray.size]
    unfold Lib.idxFuncFrom
    rw [hsz]
    by_cases hp : pos < t.length
    · rw [if_pos hp, List.drop_eq_getElem_cons hp, List.all_cons, Lib.decode_at, get_txt t pos hp]
      by_cases hc : t[pos].toNat < 128
      · rw [decodeN_low _ _ _ _ _ hc, bad_print]
        simp only
        cases hpr : printB t[pos] with
        | true =>
          simp only [Bool.not_true, Bool.false_eq_true, if_false, Bool.true_and]
          exact idx_print t f (pos + 1) (by omega)
        | false =>
          simp only [Bool.not_false, if_true, Bool.false_and]
          constructor
          · intro h9; omega
          · intro h9; cases h9
      · have h1 := decodeN_high ((ByteArray.mk t.toArray).size - pos) t[pos].toNat ((ByteArray.mk t.toArray).get! (pos + 1)).toNat ((ByteArray.mk t.toArray).get! (pos + 2)).toNat ((ByteArray.mk t.toArray).get! (pos + 3)).toNat (by omega)
        rw [if_pos (by unfold badR; exact decide_eq_true (by omega))]
        have hpr : printB t[pos] = false := by unfold printB; exact decide_eq_false (by omega)
        rw [hpr, Bool.false_and]
        constructor
        · intro h9; omega
        · intro h9; cases h9
    · rw [if_neg hp, List.drop_eq_nil_of_le (by omega)]
      simp
theorem idx_any20 (t : Txt) (w : World) : Calls Tryz.prog 141 #[.string ⟨t.toArray⟩, .func (.func 142) #[] #[]] w fun e w' => ∃ i : Int, e = .returned (.int .i64 i) ∧ (decide (i < 0) = t.all printB) ∧ Below w.heap.size w w' := by
  refine (Tryz.strings_IndexFunc_runes 142 #[] (enters_of Tryz.func142 (by kernel_rfl) rfl) badR ⟨t.toArray⟩ w ?_).mono ?_
  · intro W x hx hb
    unfold FnGives
    show Calls Tryz.prog 142 #[.int .i32 (x : Int)] W _
    by_cases h1 : x < 32
    · have h1' : (x : Int) < 32 := by omega
      have HD := Lib.hid (show badR x = true from decide_eq_true (.inl h1))
      go_enter Tryz.func142, Tryz.ntmps142
      go_wp2
      go_ret
      exact ⟨by rw [HD.out]; rfl, 0, rfl⟩
    · have h1' : ¬ (x : Int) < 32 := by omega
      by_cases h2 : 126 < x
      · have h2' : (126 : Int) < (x : Int) := by omega
        have HD := Lib.hid (show badR x = true from decide_eq_true (.inr h2))
        go_enter Tryz.func142, Tryz.ntmps142
        go_wp2
        go_ret
        exact ⟨by rw [HD.out]; rfl, 0, rfl⟩
      · have h2' : ¬ (126 : Int) < (x : Int) := by omega
        have HD := Lib.hid (show badR x = false from decide_eq_false (by omega))
        go_enter Tryz.func142, Tryz.ntmps142
        go_wp2
        go_ret
        exact ⟨by rw [HD.out]; rfl, 0, rfl⟩
  · rintro e w' ⟨rfl, hb⟩
    refine ⟨_, rfl, ?_, hb⟩
    have h := idx_print t t.length 0 (by omega)
    rw [List.drop_zero] at h
    have hsz : (ByteArray.mk t.toArray).size = t.length := by simp [ByteArray.size]
    unfold Lib.idxFunc
    rw [hsz]
    by_cases h0 : t.all printB = true
    · rw [h0]; exact decide_eq_true (h.2 h0)
    · rw [show t.all printB = false by simpa using h0]; exact decide_eq_false (fun h9 => h0 (h.1 h9))
/-- The names of a unit, in memory of the call's own. -/
structure Names20 (w W : World) (u : SV) (A1 : Option Addr) (c1 : Nat) (w1 : World) (A2 : Option Addr) (c2 : Nat) (w2 : World) : Prop where
  r1 : (Builtin.append_ #[23, 23] 23 #[.slice (some ⟨W.heap.size, 0, none⟩) 1 1, .slice u.A u.n u.c]).run Tryz.prog (W.alloc (.cells #[.string ⟨u.name.toArray⟩] 9)) = .ok (.slice A1 (1 + u.n) c1) w1
  r2 : (Builtin.append_ #[23, 23] 23 #[.slice A1 (1 + u.n) c1, .slice u.A2 u.n2 u.c2]).run Tryz.prog w1 = .ok (.slice A2 (1 + u.n + u.n2) c2) w2
  row : Slc w2 w2.heap.size 1 A2 (1 + u.n + u.n2) c2 ((u.name :: (u.req ++ u.aft)).map encStr)
  bel1 : Below W.heap.size W w1
  bel : Below W.heap.size W w2
theorem names20 {w W : World} {B : Nat} (u : SV) (h1 : Slc W B 1 u.A u.n u.c (u.req.map encStr)) (h2 : Slc W B 1 u.A2 u.n2 u.c2 (u.aft.map encStr)) (hB : B ≤ W.heap.size) (hn : u.n ≤ 1000000000 ∧ u.n2 ≤ 1000000000) :
    ∃ A1 c1 w1 A2 c2 w2, Names20 w W u A1 c1 w1 A2 c2 w2 := by
  obtain ⟨i, hi, hz0, hz1, hz2⟩ := info_parts str_info
  have ho : (W.alloc (.cells #[.string ⟨u.name.toArray⟩] 9)).ownsRow W.heap.size 9 1 (.slice (some ⟨W.heap.size, 0, none⟩) 1 1) 1 [encStr u.name] := ⟨rfl, .inr ⟨W.heap.size, 1, _, rfl, Nat.le_refl _, heap_alloc_new W _, Nat.le_refl _, by decide, rfl, rfl⟩⟩
  have hb0 : Below W.heap.size W (W.alloc (.cells #[.string ⟨u.name.toArray⟩] 9)) := (Below.refl _ W).alloc (Nat.le_refl _) _
  obtain ⟨A1, c1, w1, r1, o1, g1, _⟩ := append_slc (P := Tryz.prog) (W.alloc (.cells #[.string ⟨u.name.toArray⟩] 9)) W.heap.size 23 23 _ i _ 1 16 Tryz.underlying23 hi hz0 hz1 hz2 rfl (by decide) _ 1 _ ho B u.A u.n u.c (u.req.map encStr) (h1.below (hb0.mono hB)) (strs_one20 u.req) (by unfold maxLen; omega) (by omega) (by simp)
  have hb1 := grown_below hb0 ho (by simp) g1
  obtain ⟨A2, c2, w2, r2, o2, g2, _⟩ := append_slc (P := Tryz.prog) w1 W.heap.size 23 23 _ i _ 1 16 Tryz.underlying23 hi hz0 hz1 hz2 rfl (by decide) _ _ _ o1 B u.A2 u.n2 u.c2 (u.aft.map encStr) (h2.below (hb1.mono hB)) (strs_one20 u.aft) (by unfold maxLen; omega) (by omega) hb1.size
  have hb2 := grown_below hb1 o1 hb1.size g2
  have he : [encStr u.name] ++ u.req.map encStr ++ u.aft.map encStr = (u.name :: (u.req ++ u.aft)).map encStr := by simp
  rw [he] at o2
  exact ⟨A1, c1, w1, A2, c2, w2, r1, r2, own_slc_of o2, hb1, hb2⟩
set_option maxRecDepth 100000 in
set_option maxHeartbeats 2000000 in
theorem may_any20 {w : World} {B : Nat} (u : SV) (h1 : Slc w B 1 u.A u.n u.c (u.req.map encStr)) (h2 : Slc w B 1 u.A2 u.n2 u.c2 (u.aft.map encStr)) (hB : B ≤ w.heap.size) (hn : u.n ≤ 1000000000 ∧ u.n2 ≤ 1000000000) (hs : ∀ t ∈ u.name :: (u.req ++ u.aft), t.length ≤ 1000000000) (hst : u.start.length ≤ 1000000000) :
    Calls Tryz.prog 118 #[.agg (svArr u)] w fun e w' => e = .returned (.bool (mayU u.srv)) ∧ Below w.heap.size w w' := by
  have hbv : Below w.heap.size w (w.alloc (.cells (svArr u) 59)).drew := ((Below.refl _ w).alloc (Nat.le_refl _) _).drew
  have hzv : (w.alloc (.cells (svArr u) 59)).drew.heap.size = w.heap.size + 1 := by simp
  have hGv : Blk (w.alloc (.cells (svArr u) 59)).drew w.heap.size 59 (svArr u) := (Blk.new _ _ _).drew
  obtain ⟨A1, c1, w1, A2, c2, w2, S⟩ := names20 (w := w) u (h1.below (hbv.mono hB)) (h2.below (hbv.mono hB)) (by rw [hzv]; omega) hn
  have HG2 := Lib.hid (hGv.below S.bel hGv.lt)
  have HG1 := Lib.hid (hGv.below S.bel1 hGv.lt)
  have HG0 := Lib.hid hGv
  have HB2 := Lib.hid (hbv.trans (S.bel.mono (by rw [hzv]; omega)))
  have HW := Lib.hid S.row
  have r1 := S.r1
  have r2 := S.r2
  rw [hzv] at r1
  obtain ⟨L, hL⟩ : ∃ L, L = u.name :: (u.req ++ u.aft) := ⟨_, rfl⟩
  have HM := Lib.hid (show mayU u.srv = (L.all nameB && decide (1 ≤ u.start.length ∧ u.start.length ≤ 120) && u.start.all printB) by rw [hL]; rfl)
  rw [← hL] at HW hs
  have hLn : L.length = 1 + u.n + u.n2 := by have e1 := h1.len; have e2 := h2.len; rw [List.length_map] at e1 e2; rw [hL]; simp; omega
  obtain ⟨N, hN⟩ : ∃ N, N = 1 + u.n + u.n2 := ⟨_, rfl⟩
  rw [← hN] at r2 HW hLn
  have hN62 : N ≤ 9000000000 := by omega
  have hw2 : w.heap.size < w2.heap.size := by have := S.bel.size; omega
  have HS := Lib.hid hs
  have HLN := Lib.hid hLn
  have HN := Lib.hid hN
  clear h1 h2 hB hn S hbv hzv hGv hL hs hLn hN
  have HLEN : Hid (u.start.length ≤ 1000000000) := hst
  obtain ⟨nm, st, rq, A, n, c, af, A', n', c'⟩ := u
  have x0 := HG0.out.cell 0
  have x1 := HG0.out.cell 1
  have x2 := HG0.out.cell 2
  have x3 := HG0.out.cell 3
  have y2 := HG1.out.cell 2
  have y3 := HG1.out.cell 3
  unfold svArr at r1 x0 x1 x2 x3 y2 y3 ⊢
  simp only [List.getElem?_toArray, List.getElem?_cons_zero, List.getElem?_cons_succ] at x0 x1 x2 x3 y2 y3
  simp only at r1 r2
  have r1' : (Builtin.append_ #[23, 23] 23 #[.slice (some ⟨w.heap.size + 1, 0, none⟩) 1 1, .slice A n c]).run Tryz.prog ((w.alloc (.cells #[.string ⟨nm.toArray⟩, .string ⟨st.toArray⟩, .slice A n c, .slice A' n' c'] 59)).alloc (.cells #[.string ⟨nm.toArray⟩] 9)).drew = .ok (.slice A1 (1 + n) c1) w1 := r1
  have HR1 := Lib.hid r1'
  clear r1'
  have HR2 := Lib.hid r2
  have HX := Lib.hid (And.intro x0 (And.intro x2 x3))
  have HGA := Lib.hid ((HG0.out).alloc (.cells #[.string ⟨nm.toArray⟩] 9))
  have HXA := Lib.hid (And.intro (HGA.out.cell 0) (And.intro (HGA.out.cell 2) (HGA.out.cell 3)))
  have HX1 := Lib.hid (And.intro (HG1.out.cell 0) (And.intro (HG1.out.cell 2) (HG1.out.cell 3)))
  have HX2 := Lib.hid (And.intro (HG2.out.cell 0) (And.intro (HG2.out.cell 2) (HG2.out.cell 3)))
  clear r1 r2 x0 x1 x2 x3 y2 y3
  go_enter Tryz.func118, Tryz.ntmps118
  go_wp2_with (fail)
  go_region_held3 (fun W' => W'.cell? ⟨w.heap.size, 0, none⟩ = some (.string ⟨nm.toArray⟩) ∧ W'.cell? ⟨w.heap.size, 2, none⟩ = some (.slice A n c) ∧ W'.cell? ⟨w.heap.size, 3, none⟩ = some (.slice A' n' c')) (first | exact HX.out | exact HXA.out | exact HX1.out | exact HX2.out) (first
    | (refine step_append_at (by rfl) _ _ _ (by rfl) HR1.out (by with_reducible rfl) (by rfl) (by rfl) (by rfl) ?_)
    | (refine step_append_at (by rfl) _ _ _ (by rfl) HR2.out (by with_reducible rfl) (by rfl) (by rfl) (by rfl) ?_))
  go_wp2_with (fail)
  go_loopw [15] (fun i wr => ∃ k : Nat, k ≤ N ∧ i = .int .i64 (k : Int) ∧ Aside ((L.take k).all nameB = true) ∧ Aside (Below w2.heap.size w2 wr)) (fun i _ => N - (intOf i).toNat)
  case atStart => exact ⟨0, Nat.zero_le _, rfl, rfl, Below.refl _ _⟩
  case round =>
    obtain ⟨k, hk, rfl, hall, hb⟩ := hrel
    by_cases hlt : k < N
    · obtain ⟨b, off, rfl, hbB, hc⟩ := (HW.out.below hb.out).at_ (by omega)
      have hkL : k < L.length := by rw [HLN.out]; exact hlt
      have c0 : wr.cell? ⟨b, off + k, none⟩ = some (.string ⟨L[k].toArray⟩) := hc k _ (by rw [List.getElem?_map, List.getElem?_eq_getElem hkL]; rfl)
      have hsh := HS.out _ (List.getElem_mem hkL)
      have hnm := name_any ⟨L[k].toArray⟩ wr (by show L[k].toArray.size ≤ maxLen; rw [List.size_toArray]; unfold maxLen; omega)
      have HTK := Lib.hid (show (L.take (k + 1)).all nameB = nameB L[k] by rw [List.take_succ_eq_append_getElem hkL, List.all_append, hall.out]; simp)
      have HAL := Lib.hid (show nameB L[k] = false → L.all nameB = false from fun h9 => by rw [List.all_eq_false]; exact ⟨_, List.getElem_mem hkL, by rw [h9]; decide⟩)
      generalize L[k] = t at *
      have ht : (ByteArray.mk t.toArray).data.toList = t := rfl
      rw [ht] at hnm
      clear hc hsh ht
      cases hb9 : nameB t with
      | false =>
        rw [hb9] at hnm
        have HF := Lib.hid (show mayU ⟨nm, st, rq, af⟩ = false by have h8 := HM.out; rw [HAL.out hb9] at h8; exact h8)
        clear hb9
        go_wp2_with (go_at_call 39; refine hnm.mono ?_; clear hnm; rintro e9 w9 ⟨rfl, hb9⟩; have HB9 := Lib.hid (hb.out.trans (hb9.mono hb.out.size)); clear hb9)
        go_ret
        exact ⟨by show _ = Ending.returned (.bool (mayU ⟨nm, st, rq, af⟩)); rw [HF.out]; rfl, HB2.out.trans (HB9.out.mono (by have := HB2.out.size; omega))⟩
      | true =>
        rw [hb9] at hnm
        have HT := Lib.hid (HTK.out.trans hb9)
        clear hb9
        go_wp2_with (go_at_call 39; refine hnm.mono ?_; clear hnm; rintro e9 w9 ⟨rfl, hb9⟩; have HB9 := Lib.hid (hb.out.trans (hb9.mono hb.out.size)); clear hb9)
        exact ⟨⟨k + 1, by omega, by go_num, HT.out, HB9.out⟩, by simp [intOf]; omega⟩
    · have HM2 := Lib.hid (show mayU ⟨nm, st, rq, af⟩ = (decide (1 ≤ st.length ∧ st.length ≤ 120) && st.all printB) by
        have h8 := HM.out
        have h9 := hall.out
        rw [List.take_of_length_le (by have := HLN.out; omega)] at h9
        rw [h9, Bool.true_and] at h8
        exact h8)
      have hGr := HG2.out.below hb.out hw2
      have z1 := hGr.cell 1
      unfold svArr at z1
      simp only [List.getElem?_toArray, List.getElem?_cons_zero, List.getElem?_cons_succ] at z1
      have HBR := Lib.hid (HB2.out.trans (hb.out.mono (by have := HB2.out.size; omega)))
      have tst : (ByteArray.mk st.toArray).toList = st := Go.ByteArray.toList_eq _
      have hi := idx_any20 st wr
      clear hGr HG0 HG1 HG2 HX HX1 HX2 HXA HGA
      by_cases hs0 : st = []
      · subst hs0
        have HF := Lib.hid (show mayU ⟨nm, [], rq, af⟩ = false by rw [HM2.out]; rfl)
        go_wp2_with (fail)
        go_ret
        exact ⟨by show _ = Ending.returned (.bool (mayU ⟨nm, [], rq, af⟩)); rw [HF.out]; rfl, HBR.out⟩
      · have hse : st.isEmpty = false := by cases st with | nil => exact absurd rfl hs0 | cons => rfl
        have hlen1 : 1 ≤ st.length := by cases st with | nil => exact absurd rfl hs0 | cons => simp
        by_cases hs1 : 120 < st.length
        · have HF := Lib.hid (show mayU ⟨nm, st, rq, af⟩ = false by rw [HM2.out, decide_eq_false (by omega)]; rfl)
          have hs2 : ¬ (st.length : Int) ≤ 120 := by omega
          go_wp2_with (fail)
          go_ret
          exact ⟨by show _ = Ending.returned (.bool (mayU ⟨nm, st, rq, af⟩)); rw [HF.out]; rfl, HBR.out⟩
        · have HF := Lib.hid (show mayU ⟨nm, st, rq, af⟩ = st.all printB by rw [HM2.out, decide_eq_true (by omega)]; rfl)
          have hs2 : (st.length : Int) ≤ 120 := by omega
          go_wp2_with (go_at_call 141; refine hi.mono ?_; clear hi; rintro e9 w9 ⟨i, rfl, hdi, hb9⟩)
          go_ret
          exact ⟨by show _ = Ending.returned (.bool (mayU ⟨nm, st, rq, af⟩)); rw [HF.out]; rfl, HBR.out.trans (hb9.mono HBR.out.size)⟩
end Go.Proofs.YtibndaianhlcaaaGreatDoor
