/- The walk of tree.ref: the store path at the front of a text. The walk of tree.Refs: the store paths that stand in a list of entries. The walk of dirs.Path. -/
import Derived.Test.YtibndaianhlcaaaGreatDoorPart2
import Derived.Test.YtibndaianhlcaaaGreatDoorPart5
import Derived.Test.YtibndaianhlcaaaGreatDoorPart8
import Derived.Test.YtibndaianhlcaaaGreatDoorPart6
namespace Go.Proofs.YtibndaianhlcaaaGreatDoor
open Go.RowKit
set_option linter.unusedVariables false
set_option linter.unusedSimpArgs false

theorem ext_list (l : List UInt8) (a b : Nat) : (ByteArray.mk l.toArray).extract a b = ⟨((l.drop a).take (b - a)).toArray⟩ := by
  apply Go.WideShapes.bytes_inj
  simp [List.extract_eq_take_drop]
theorem pre7 (l : List UInt8) : Lib.hasPrefix l slash7 = decide (l.take 7 = slash7) := by
  unfold Lib.hasPrefix slash7
  rw [Bool.eq_iff_iff]
  simp only [List.isPrefixOf_iff_prefix, decide_eq_true_eq]
  rw [List.prefix_iff_eq_take]
  exact ⟨fun h => h.symm, fun h => h.symm⟩
theorem headB_false_pre {l : List UInt8} (h : l.take 7 ≠ slash7) : refP l = [] := by unfold refP; rw [if_neg]; rintro ⟨h1, _⟩; exact h ((headB_iff l).1 h1).1
theorem headB_false_dig {l : List UInt8} (h : (parsed ((l.drop 7).take 16)).isSome = false) : refP l = [] := by unfold refP; rw [if_neg]; rintro ⟨h1, _⟩; rw [((headB_iff l).1 h1).2.2.1] at h; cases h
theorem headB_false_dash {l : List UInt8} (h : l[23]? ≠ some 45) : refP l = [] := by unfold refP; rw [if_neg]; rintro ⟨h1, _⟩; exact h ((headB_iff l).1 h1).2.2.2

/-- n letters stand behind a store path's head. -/
def lettersTo (l : List UInt8) (n : Nat) : Prop := n ≤ 19 ∧ 24 + n ≤ l.length ∧ ((l.drop 24).take n).all letterB = true
theorem lettersTo_end {l : List UInt8} {n : Nat} (hh : headB l = true) (h : lettersTo l n) (he : n = 19 ∨ 24 + n = l.length ∨ ∃ hk : 24 + n < l.length, letterB l[24 + n] = false) : refP l = if n = 0 then [] else l.take (24 + n) := by
  have hn : tailN l = n := by
    unfold tailN
    have h1 := all_takeWhile letterB (l.drop 24) n (by rw [List.length_drop]; have := h.2.1; omega) h.2.2
    rcases he with he | he | ⟨hk, he⟩
    · have := h.1; omega
    · have h2 := (List.takeWhile_sublist letterB (l := l.drop 24)).length_le
      rw [List.length_drop] at h2
      have := h.1
      omega
    · have h3 : ¬ n + 1 ≤ ((l.drop 24).takeWhile letterB).length := by
        intro h3
        have h4 := takeWhile_all letterB (l.drop 24) (n + 1) h3
        rw [List.take_succ_eq_append_getElem (by rw [List.length_drop]; omega), List.all_append, Bool.and_eq_true] at h4
        have h5 := h4.2
        simp only [List.all_cons, List.all_nil, Bool.and_true, List.getElem_drop] at h5
        rw [he] at h5
        cases h5
      have := h.1
      omega
  unfold refP
  rw [hn]
  by_cases h0 : n = 0
  · subst h0
    rw [if_neg (by omega), if_pos rfl]
  · rw [if_pos ⟨hh, by omega⟩, if_neg h0]
theorem lettersTo_succ {l : List UInt8} {n : Nat} (h : lettersTo l n) (h1 : n < 19) (h2 : 24 + n < l.length) (h3 : letterB l[24 + n] = true) : lettersTo l (n + 1) := by
  refine ⟨by omega, by omega, ?_⟩
  rw [List.take_succ_eq_append_getElem (by rw [List.length_drop]; omega), List.all_append, h.2.2]
  simp [List.getElem_drop, h3]

end Go.Proofs.YtibndaianhlcaaaGreatDoor
namespace Go.Proofs.YtibndaianhlcaaaGreatDoor
open Go.RowKit Go.Sort
set_option linter.unusedVariables false
set_option linter.unusedSimpArgs false

theorem own_below {w w' : World} {base : Nat} {e : TypeId} {size : Nat} {v : Value} {n : Nat} {xs : List Value} (h : w.ownsRow base e size v n xs) (hb : Below w.heap.size w w') : w'.ownsRow base e size v n xs := by
  refine h.kept (row := none) ⟨hb.os, hb.tape, hb.output, hb.size, fun k hk _ => hb.block k hk⟩ ?_
  cases v.ownBlock with
  | none => exact .inl rfl
  | some g => exact .inr (fun e => by cases e)

theorem refsTo_le_one (d : Txt) (j : Nat) (hj : j ≤ d.length) : (refsTo d j).length ≤ (refsOne d).length := by
  unfold refsOne
  obtain ⟨m, hm⟩ : ∃ m, d.length = j + m := ⟨d.length - j, by omega⟩
  rw [hm]
  clear hm hj
  induction m with
  | zero => exact Nat.le_refl _
  | succ m ih => rw [← Nat.add_assoc, refsTo_succ, List.length_append]; omega
theorem refsAll_le (ds : List Txt) (k : Nat) : (refsAll (ds.take k)).length ≤ (refsAll ds).length := by
  have : refsAll ds = refsAll (ds.take k) ++ refsAll (ds.drop k) := by
    unfold refsAll
    rw [← List.flatMap_append, List.take_append_drop]
  rw [this, List.length_append]
  omega

end Go.Proofs.YtibndaianhlcaaaGreatDoor
namespace Go.Proofs.YtibndaianhlcaaaGreatDoor
open Go.RowKit Go.Shelf
set_option linter.unusedVariables false
set_option linter.unusedSimpArgs false

theorem wpListIn_append_run {F : Fence} {n : Nat} {P : Program} {ops : Array Oper} {rest : List Oper} {o : Oper} {a : Act} {Q : Exit → Act → World → Prop} (hgd : o.guard = none) (s x : Operand) (t : TypeId)
    (ho : o.op = .call { callee := .builtin .append, args := #[s, x], argTypes := #[t, t] }) {w w' : World} {v y v' : Value} (hs : a.eval s = v) (hx : a.eval x = y)
    (hrun : (Builtin.append_ #[t, t] o.type #[v, y]).run P w = .ok v' w') (h : wpListIn F n P ops Q rest (a.put o.dst v') w') : wpListIn F n P ops Q (o :: rest) a w := by
  refine wpListIn_plain hgd fun K hK => ?_
  unfold Oper.wpIn
  refine ⟨?_, ?_⟩
  · simp [Oper.about, ho, resolve, Target.leads, Sem.run_pure]
  · rw [Oper.semAt_plain F _ _ (by rw [ho]; intro c hc; cases hc)]
    simp [execOp, ho, resolve, invoke, builtin, hs, hx, hrun, Result.andThen]
    exact hK _ _ h
theorem results_cells2 {P : Program} {fn : Func} {t u : Tmp} {T U : TypeId} {g k : Addr} {x y : Value} {w : World} {tmps : Array Value} (h : fn.results = #[.cell t T, .cell u U]) (ht : tmps.getD t undef = .pointer (some g)) (hu : tmps.getD u undef = .pointer (some k))
    (hT : ∀ w, (isAgg T).run P w = .ok false w) (hU : ∀ w, (isAgg U).run P w = .ok false w) (hx : w.cell? g = some x) (hy : w.cell? k = some y) : (results fn tmps).run P w = .ok (.tuple #[x, y]) w := by
  simp only [Array.getD_eq_getD_getElem?] at ht hu
  simp [results, h, ht, hu, asAddr, loadVar, hT, hU, hx, hy, go_sem]
theorem splitS_mem_length : ∀ (l x : Txt), x ∈ splitS l → x.length ≤ l.length
  | [], x, h => by
    rw [splitS_none [] (by simp)] at h
    rw [List.mem_singleton.1 h]
    exact Nat.le_refl _
  | c :: l, x, h => by
    by_cases hc : c = 47
    · subst hc
      rw [splitS_slash] at h
      rcases List.mem_cons.1 h with h | h
      · rw [h]; simp
      · have := splitS_mem_length l x h
        simp only [List.length_cons]
        omega
    · obtain ⟨p, q, e1, e2⟩ := splitS_other c l hc
      rw [e2] at h
      rcases List.mem_cons.1 h with h | h
      · have := splitS_mem_length l p (by rw [e1]; exact List.mem_cons_self ..)
        rw [h]
        simp only [List.length_cons]
        omega
      · have := splitS_mem_length l x (by rw [e1]; exact List.mem_cons_of_mem _ h)
        simp only [List.length_cons]
        omega

/-- What Path holds between two rounds. -/
structure PathI (w : World) (pre : List Txt) (W : World) : Prop where
  names : pre.all nameB = true
  few : pre.length ≤ 16
  r2 : Blk W w.heap.size 23 #[.slice none 0 0]
  r3 : Blk W (w.heap.size + 1) 4 #[.bool false]
  out : ∃ A n c, Blk W (w.heap.size + 2) 23 #[.slice A n c] ∧ W.ownsRow w.heap.size 9 1 (.slice A n c) n (pre.map encStr) ∧ ∀ q, (Value.slice A n c).ownBlock = some q → w.heap.size + 7 < q
  bel : Below w.heap.size w W
/-- What it holds when it has given up. -/
structure PathX (w : World) (r : Txt) (W : World) : Prop where
  none_ : pathNames (47 :: r) = none
  r2 : Blk W w.heap.size 23 #[.slice none 0 0]
  r3 : Blk W (w.heap.size + 1) 4 #[.bool false]
  bel : Below w.heap.size w W
theorem blk_put {W : World} {g l : Nat} {t : TypeId} {cs : Array Value} (h : Blk W g t cs) (hl : g ≠ l) (o : Obj) : Blk (W.putObj l o) g t cs := (World.putObj_heap_other hl).trans h
theorem below_put {a W : World} (h : Below a.heap.size a W) {l : Nat} (hl : a.heap.size ≤ l) (o : Obj) : Below a.heap.size a (W.putObj l o) :=
  h.trans ((Below.refl a.heap.size W).grown (grownBy_putObj' W l o) h.size (fun q e => by cases e; exact hl))
theorem PathI.alloc {w W : World} {pre : List Txt} (h : PathI w pre W) (o : Obj) : PathI w pre (W.alloc o) := by
  obtain ⟨A, n, c, h1, h2, h3⟩ := h.out
  exact ⟨h.names, h.few, h.r2.alloc _, h.r3.alloc _, ⟨A, n, c, h1.alloc _, h2.alloc _, h3⟩, h.bel.alloc h.bel.size _⟩
theorem PathI.put {w W : World} {pre : List Txt} (h : PathI w pre W) (o : Obj) : PathI w pre (W.putObj (w.heap.size + 7) o) := by
  obtain ⟨A, n, c, h1, h2, h3⟩ := h.out
  refine ⟨h.names, h.few, blk_put h.r2 (by omega) _, blk_put h.r3 (by omega) _, ⟨A, n, c, blk_put h1 (by omega) _, h2.kept (grownBy_putObj' W _ o) ?_, h3⟩, below_put h.bel (by omega) _⟩
  rcases hq : (Value.slice A n c).ownBlock with _ | q
  · exact .inl rfl
  · exact .inr (fun e => by have := h3 q hq; injection e with e; omega)
theorem PathI.set {w W : World} {pre : List Txt} (h : PathI w pre W) (v : Value) : PathI w pre (W.setCell ⟨w.heap.size + 3, 0, none⟩ v) := by
  obtain ⟨A, n, c, h1, h2, h3⟩ := h.out
  refine ⟨h.names, h.few, h.r2.far (by simp) _, h.r3.far (by simp) _, ⟨A, n, c, h1.far (by simp) _, ?_, h3⟩, h.bel.setCell (p := ⟨w.heap.size + 3, 0, none⟩) (by simp) _⟩
  refine h2.kept (row := some (w.heap.size + 3)) ⟨rfl, rfl, rfl, by simp [World.setCell], fun k hk hne => Below.heap_setCell W _ v k (fun e => hne (by rw [e]))⟩ ?_
  rcases hq : (Value.slice A n c).ownBlock with _ | q
  · exact .inl rfl
  · exact .inr (fun e => by have := h3 q hq; injection e with e; omega)
theorem PathI.drew {w W : World} {pre : List Txt} (h : PathI w pre W) : PathI w pre W.drew := ⟨h.names, h.few, h.r2, h.r3, h.out, h.bel.drew⟩
theorem PathX.put {w W : World} {r : Txt} (h : PathX w r W) (o : Obj) : PathX w r (W.putObj (w.heap.size + 7) o) := ⟨h.none_, blk_put h.r2 (by omega) _, blk_put h.r3 (by omega) _, below_put h.bel (by omega) _⟩

theorem rec_of {D : Nat} {A B : World} (hb : Below A.heap.size A B) (hD : D + 1 < A.heap.size) : RecKept D A B := ⟨hb.size, hb.block D (by omega), hb.block (D + 1) hD⟩
theorem RecKept.set {D : Nat} {A B : World} (h : RecKept D A B) {p : Addr} (h1 : p.block ≠ D) (h2 : p.block ≠ D + 1) (v : Value) : RecKept D A (B.setCell p v) :=
  ⟨by simpa [World.setCell] using h.size, (Below.heap_setCell B p v D (fun e => h1 e.symm)).trans h.mark, (Below.heap_setCell B p v (D + 1) (fun e => h2 e.symm)).trans h.rec_⟩
theorem RecKept.grown {D : Nat} {A B C : World} (h : RecKept D A B) {row : Option Nat} (hg : B.grownBy C row) (hD : D + 1 < B.heap.size) (h1 : row ≠ some D) (h2 : row ≠ some (D + 1)) : RecKept D A C :=
  ⟨Nat.le_trans h.size hg.size, (hg.block D (by omega) (fun e => h1 e.symm)).trans h.mark, (hg.block (D + 1) hD (fun e => h2 e.symm)).trans h.rec_⟩
theorem kp3_of {b1 b2 b3 : Nat} {A B : World} (hb : Below A.heap.size A B) (h1 : b1 < A.heap.size) (h2 : b2 < A.heap.size) (h3 : b3 < A.heap.size) : Kp3 b1 b2 b3 A B := ⟨hb.block _ h1, hb.block _ h2, hb.block _ h3⟩
theorem Kp3.set {b1 b2 b3 : Nat} {A B : World} (h : Kp3 b1 b2 b3 A B) {p : Addr} (h1 : p.block ≠ b1) (h2 : p.block ≠ b2) (h3 : p.block ≠ b3) (v : Value) : Kp3 b1 b2 b3 A (B.setCell p v) :=
  ⟨(Below.heap_setCell B p v _ (fun e => h1 e.symm)).trans h.k1, (Below.heap_setCell B p v _ (fun e => h2 e.symm)).trans h.k2, (Below.heap_setCell B p v _ (fun e => h3 e.symm)).trans h.k3⟩
theorem Kp3.grown {b1 b2 b3 : Nat} {A B C : World} (h : Kp3 b1 b2 b3 A B) {row : Option Nat} (hg : B.grownBy C row) (l1 : b1 < B.heap.size) (l2 : b2 < B.heap.size) (l3 : b3 < B.heap.size) (h1 : row ≠ some b1) (h2 : row ≠ some b2) (h3 : row ≠ some b3) : Kp3 b1 b2 b3 A C :=
  ⟨(hg.block _ l1 (fun e => h1 e.symm)).trans h.k1, (hg.block _ l2 (fun e => h2 e.symm)).trans h.k2, (hg.block _ l3 (fun e => h3 e.symm)).trans h.k3⟩
theorem pathNames_cons {r : Txt} (hr : r ≠ []) (hl : r.length ≤ 199) : pathNames (47 :: r) = if (splitS r).all nameB = true ∧ (splitS r).length ≤ 16 then some (splitS r) else none := by
  show (if (47 : UInt8) ≠ 47 ∨ 200 < (47 :: r).length then none else if r = [] then some [] else if (splitS r).all nameB = true ∧ (splitS r).length ≤ 16 then some (splitS r) else none) = _
  rw [if_neg (by simp only [List.length_cons, ne_eq, not_true, false_or]; omega), if_neg hr]
theorem pathNames_bad {r x : Txt} (hr : r ≠ []) (hl : r.length ≤ 199) (hx : x ∈ splitS r) (h : nameB x = false) : pathNames (47 :: r) = none := by
  rw [pathNames_cons hr hl, if_neg]
  intro hc
  have := List.all_eq_true.1 hc.1 x hx
  rw [h] at this
  cases this
theorem pathNames_long {r : Txt} (hr : r ≠ []) (hl : r.length ≤ 199) (h : 16 < (splitS r).length) : pathNames (47 :: r) = none := by
  rw [pathNames_cons hr hl, if_neg]
  intro hc
  omega
theorem pathNames_good {r : Txt} (hr : r ≠ []) (hl : r.length ≤ 199) (h1 : (splitS r).all nameB = true) (h2 : (splitS r).length ≤ 16) : pathNames (47 :: r) = some (splitS r) := by
  rw [pathNames_cons hr hl, if_pos ⟨h1, h2⟩]
theorem cut_slash (r : Txt) (w : World) : Calls Tryz.prog 132 #[.string ⟨(47 :: r).toArray⟩, .string ⟨#[47]⟩] w fun e w' => e = .returned (.tuple #[.string ⟨r.toArray⟩, .bool true]) ∧ w' = w := by
  have h := Tryz.strings_CutPrefix ⟨(47 :: r).toArray⟩ ⟨#[47]⟩ w
  exact h
def PathPost (w : World) (l : Txt) : Ending → World → Prop := fun e w' => ∃ A n c, e = .returned (.tuple #[.slice A n c, .bool (pathNames l).isSome]) ∧ w'.ownsRow w.heap.size 9 1 (.slice A n c) n (((pathNames l).getD []).map encStr) ∧ Below w.heap.size w w'

section
attribute [local go_sem] Oper.semAt_some
set_option maxRecDepth 100000 in
set_option maxHeartbeats 1000000 in
theorem path_loop (r : Txt) (hr : r ≠ []) (hl : r.length ≤ 199) (w : World) : Calls Tryz.prog 106 #[.string ⟨(47 :: r).toArray⟩] w (PathPost w (47 :: r)) := by
  refine callsIn_wide.1 (callsIn_of_wp_marks (F := Fence.wide) (n := 8) Tryz.func106 rfl trivial (wpIn_wide.2 ?_))
  obtain ⟨fn, hfn⟩ : ∃ fn, fn = Tryz.f106 := ⟨_, rfl⟩
  obtain ⟨Q, hQ⟩ : ∃ Q, Q = bodyPostM Fence.wide 8 Tryz.prog Tryz.f106 (PathPost w (47 :: r)) := ⟨_, rfl⟩
  have hQ1 : ∀ (t : Array Value) (w9 : World) (D2 : Nat), w9.heap[D2]? = some (.deferred (some [])) → (∃ v, (results Tryz.f106 t).run Tryz.prog (w9.putObj D2 (.deferred none)) = .ok v (w9.putObj D2 (.deferred none)) ∧ PathPost w (47 :: r) (.returned v) (w9.putObj D2 (.deferred none))) → Q .ret ⟨t, [{ target := .collected D2, args := #[] }]⟩ w9 := fun t w9 D2 hk hv => by
    rw [hQ]; exact ⟨by simp, .inl ⟨_, _, rfl, run_takeDeferred hk, hv⟩⟩
  have HQ1 := Lib.hid hQ1
  rw [← hQ]
  clear hQ1 hQ hfn
  have hcp := cut_slash r
  have hrl : ¬ 200 < r.length + 1 := by omega
  have hre : r.isEmpty = false := by cases r with | nil => exact absurd rfl hr | cons => rfl
  have ht : (ByteArray.mk r.toArray).toList = r := Go.ByteArray.toList_eq _
  simp only [Tryz.ntmps106, List.size_toArray, List.length_cons, List.length_nil, Nat.reduceAdd, Nat.reduceSub, Array.replicate_succ, Array.replicate_zero, List.push_toArray, List.append_toArray, List.nil_append, List.cons_append]
  go_wp2_with (first
    | (go_at_call 132; refine (hcp _).mono ?_; clear hcp; rintro e w' ⟨rfl, hw⟩; obtain rfl := hw.symm)
    | (go_at_call 65; refine (split_any _ _).mono ?_; rintro e w5 ⟨rfl, rfl⟩))
  obtain ⟨W3, hW3⟩ : ∃ W3, W3 = ((w.alloc (.cells #[.slice none 0 0] 23)).alloc (.cells #[.bool false] 4)).alloc (.cells #[.slice none 0 0] 23) := ⟨_, rfl⟩
  rw [← hW3]
  obtain ⟨w5, hw5⟩ : ∃ w5, w5 = splitW W3 ⟨r.toArray⟩ := ⟨_, rfl⟩
  rw [← hw5]
  have hz3 : W3.heap.size = w.heap.size + 3 := by rw [hW3]; simp
  have hb3 : Below w.heap.size w W3 := by rw [hW3]; exact (((Below.refl _ w).alloc (Nat.le_refl _) _).alloc (by simp) _).alloc (by simp; omega) _
  have hr2 : Blk W3 w.heap.size 23 #[.slice none 0 0] := by rw [hW3]; exact ((Blk.new _ _ _).alloc _).alloc _
  have hr3 : Blk W3 (w.heap.size + 1) 4 #[.bool false] := by
    rw [hW3]
    have := Blk.new (w.alloc (.cells #[.slice none 0 0] 23)) 4 #[.bool false]
    rw [World.size_alloc] at this
    exact this.alloc _
  have hr6 : Blk W3 (w.heap.size + 2) 23 #[.slice none 0 0] := by
    rw [hW3]
    have := Blk.new ((w.alloc (.cells #[.slice none 0 0] 23)).alloc (.cells #[.bool false] 4)) 23 #[.slice none 0 0]
    rwa [World.size_alloc, World.size_alloc] at this
  obtain ⟨s1, s2, s3, sb, sz⟩ := splitW_facts W3 ⟨r.toArray⟩
  rw [← hw5] at s1 s2 s3 sb sz
  rw [hz3] at s1 s2 s3 sz
  have hI0 : PathI w [] w5 := ⟨rfl, by decide, hr2.below sb hr2.lt, hr3.below sb hr3.lt, ⟨none, 0, 0, hr6.below sb hr6.lt, World.ownsRow_nil _ _ _ _, by simp [Value.ownBlock]⟩, hb3.trans (sb.mono hb3.size)⟩
  have hz5 : w5.heap.size = w.heap.size + 6 := by omega
  have HI0 := Lib.hid hI0
  have S1 := Lib.hid s1
  have S2 := Lib.hid s2
  have S3 := Lib.hid s3
  have HZ5 := Lib.hid hz5
  have HR := Lib.hid hr
  have HRL := Lib.hid hl
  have hw3s : W3.heap.size = w.heap.size + 3 := hz3
  clear hr2 hr3 hr6 hI0 s1 s2 s3 sb sz hb3 hr hw5
  clear hW3
  refine (wpIn_wide (n := 8)).1 ?_
  refine range_cell (α := Txt) rfl (by omega) (gf := 121) (lb := #[.pointer (some ⟨w.heap.size + 1 + 1 + 1 + 1, 0, none⟩), .pointer (some ⟨w.heap.size + 1 + 1 + 1, 0, none⟩), .pointer (some ⟨w.heap.size + 1 + 1 + 1 + 2, 0, none⟩)]) rfl trivial (enters_of Tryz.func121 (by kernel_rfl) rfl)
    (enc := fun x : Txt => #[.string ⟨x.toArray⟩]) (Kp := Kp3 (w.heap.size + 3) (w.heap.size + 4) (w.heap.size + 5)) (S := fun xs => xs = splitS r) (Sp := fun pre => pre <+: splitS r) (bs := w.heap.size + 3)
    (fun W hW => by
      exact splitseq_in 7 (by omega) (w.heap.size + 3) (w.heap.size + 4) (w.heap.size + 5) (by omega) (by omega) r (by have := HRL.out; omega) W (S1.out.below hW S1.out.lt) (S2.out.below hW S2.out.lt) (S3.out.below hW S3.out.lt))
    (by have := HZ5.out; omega) (fun h k => h.trans k) (fun A o => ⟨World.putObj_heap_other (by have := HZ5.out; omega), World.putObj_heap_other (by have := HZ5.out; omega), World.putObj_heap_other (by have := HZ5.out; omega)⟩) (fun _ => rfl)
    (fun pre W => PathI w pre W) (fun _ W => PathX w r W) (fun s A o h => h.alloc o) (fun s A o _ h => by rw [HZ5.out]; exact h.put o) (fun s A v h => h.set v) (fun s A h => h.drew) (fun s A o _ h => by rw [HZ5.out]; exact h.put o) HI0.out
    ?act ?assign ?body ?done ?stop
  case assign =>
    intro l x W K hK
    gi_wp2
    exact hK
  case body =>
    intro l pre x W hI hS hlt
    have hxm : x ∈ splitS r := hS.subset (by simp)
    have hxl : x.length ≤ 199 := Nat.le_trans (splitS_mem_length r x hxm) HRL.out
    have hnm := name_any ⟨x.toArray⟩ W (by show x.length ≤ maxLen; unfold maxLen; omega)
    have hd : (ByteArray.mk x.toArray).data.toList = x := rfl
    rw [hd] at hnm
    cases hnx : nameB x with
    | false =>
      rw [hnx] at hnm
      gi_wp2_with (refine ⟨trivial, ?_⟩; gi_at_call 39; refine (CallsIn.inRound l (callsIn_wide.2 hnm)).mono ?_; clear hnm; rintro e6 w6 ⟨rfl, hb6⟩; have r2 := hI.r2.below hb6 hI.r2.lt; have r3 := hI.r3.below hb6 hI.r3.lt; have u2 := r2.cell 0; have v2 := r2.frozen 0; have u3 := r3.cell 0; have v3 := r3.frozen 0; simp only [List.getElem?_toArray, List.getElem?_cons_zero] at u2 u3)
      refine ⟨((rec_of hb6 hlt).set (by have := HZ5.out; simp; omega) (by have := HZ5.out; simp; omega) _).set (by have := HZ5.out; simp; omega) (by have := HZ5.out; simp; omega) _, ⟨pathNames_bad HR.out HRL.out hxm hnx, (r2.set_ 0 _).far (by simp) _, Blk.set_ (r3.far (by simp) _) 0 _, ((hI.bel.trans (hb6.mono hI.bel.size)).setCell (p := ⟨w.heap.size, 0, none⟩) (Nat.le_refl _) _).setCell (p := ⟨w.heap.size + 1, 0, none⟩) (by simp) _⟩⟩
    | true =>
      rw [hnx] at hnm
      obtain ⟨A, n, c, h6, ho, hq⟩ := hI.out
      have hn : n = pre.length := by have := ho.1; simp at this; omega
      subst hn
      have h6' : Blk W (w.heap.size + 1 + 1) 23 #[.slice A pre.length c] := h6
      have hall : (pre ++ [x]).all nameB = true := by rw [List.all_append, hI.names]; simp [hnx]
      have hfew := hI.few
      by_cases h16 : pre.length = 16
      · have hbad := pathNames_long HR.out HRL.out (by have := hS.length_le; simp at this; omega)
        have hb16 : ((pre.length : Int) == 16) = true := by rw [h16]; rfl
        clear h16
        gi_wp2_with (refine ⟨trivial, ?_⟩; gi_at_call 39; refine (CallsIn.inRound l (callsIn_wide.2 hnm)).mono ?_; clear hnm; rintro e6 w6 ⟨rfl, hb6⟩; have r2 := hI.r2.below hb6 hI.r2.lt; have r3 := hI.r3.below hb6 hI.r3.lt; have u2 := r2.cell 0; have v2 := r2.frozen 0; have u3 := r3.cell 0; have v3 := r3.frozen 0; have r6 := h6.below hb6 h6.lt; have u6 := r6.cell 0; have v6 := r6.frozen 0; simp only [List.getElem?_toArray, List.getElem?_cons_zero] at u2 u3 u6)
        refine ⟨((rec_of hb6 hlt).set (by have := HZ5.out; simp; omega) (by have := HZ5.out; simp; omega) _).set (by have := HZ5.out; simp; omega) (by have := HZ5.out; simp; omega) _, ⟨hbad, (r2.set_ 0 _).far (by simp) _, Blk.set_ (r3.far (by simp) _) 0 _, ((hI.bel.trans (hb6.mono hI.bel.size)).setCell (p := ⟨w.heap.size, 0, none⟩) (Nat.le_refl _) _).setCell (p := ⟨w.heap.size + 1, 0, none⟩) (by simp) _⟩⟩
      · have hb16 : ((pre.length : Int) == 16) = false := by simp; omega
        gi_wp2_with (first
          | (refine ⟨trivial, ?_⟩; gi_at_call 39; refine (CallsIn.inRound l (callsIn_wide.2 hnm)).mono ?_; clear hnm; rintro e6 w6 ⟨rfl, hb6⟩; have r2 := hI.r2.below hb6 hI.r2.lt; have r3 := hI.r3.below hb6 hI.r3.lt; have u2 := r2.cell 0; have v2 := r2.frozen 0; have u3 := r3.cell 0; have v3 := r3.frozen 0; have r6 := h6.below hb6 h6.lt; have u6 := r6.cell 0; have v6 := r6.frozen 0; simp only [List.getElem?_toArray, List.getElem?_cons_zero] at u2 u3 u6; obtain ⟨A8, c8, w8, hrun, ho8, hg8, hv8⟩ := append_str w6 w.heap.size _ pre.length pre (own_below ho hb6) x (by omega) (Nat.le_trans hI.bel.size hb6.size); have hne : ∀ X, X ≤ w.heap.size + 7 → (Value.slice A pre.length c).ownBlock ≠ some X := (fun X hX e => by have := hq _ e; omega); have r68 := (r6.alloc (.cells #[.string ⟨x.toArray⟩] 9)).grown hg8 (fun e => hne _ (by omega) e.symm); have r28 := (r2.alloc (.cells #[.string ⟨x.toArray⟩] 9)).grown hg8 (fun e => hne _ (by omega) e.symm); have r38 := (r3.alloc (.cells #[.string ⟨x.toArray⟩] 9)).grown hg8 (fun e => hne _ (by omega) e.symm); have u8 := r68.cell 0; have v8 := r68.frozen 0; simp only [List.getElem?_toArray, List.getElem?_cons_zero] at u8)
          | (gi_at_builtin; refine wpListIn_append_run rfl _ _ _ rfl rfl rfl hrun ?_; clear hrun))
        have hba := hb6.alloc hb6.size (.cells #[.string ⟨x.toArray⟩] 9)
        have hsz6 : w5.heap.size + 1 < (w6.alloc (.cells #[.string ⟨x.toArray⟩] 9)).heap.size := by have := hb6.size; simp; omega
        have hq8 : ∀ q, (Value.slice A8 (pre.length + 1) c8).ownBlock = some q → w.heap.size + 7 < q := fun q hq' => by
          rcases hv8 with hv8 | hv8
          · rw [hv8] at hq'; exact hq _ hq'
          · rw [hv8] at hq'; injection hq' with hq'; have := hb6.size; have := HZ5.out; omega
        have hb8 := ((hI.bel.trans (hb6.mono hI.bel.size)).alloc (Nat.le_trans hI.bel.size hb6.size) (.cells #[.string ⟨x.toArray⟩] 9)).grown hg8 (by have := hb6.size; have := hI.bel.size; simp; omega) (fun q hq' => by have := hq _ hq'; omega)
        refine ⟨((rec_of hba hlt).grown hg8 hsz6 (hne _ (by have := HZ5.out; omega)) (hne _ (by have := HZ5.out; omega))).set (by have := HZ5.out; simp; omega) (by have := HZ5.out; simp; omega) _,
          ((kp3_of hba (by have := HZ5.out; omega) (by have := HZ5.out; omega) (by have := HZ5.out; omega)).grown hg8 (by have := HZ5.out; omega) (by have := HZ5.out; omega) (by have := HZ5.out; omega) (hne _ (by omega)) (hne _ (by omega)) (hne _ (by omega))).set (by simp) (by simp) (by simp) _,
          ⟨hall, by simp; omega, r28.far (show w.heap.size ≠ w.heap.size + 1 + 1 by omega) _, r38.far (show w.heap.size + 1 ≠ w.heap.size + 1 + 1 by omega) _, ⟨A8, pre.length + 1, c8, Blk.set_ r68 0 _, ?_, hq8⟩, hb8.setCell (p := ⟨w.heap.size + 1 + 1, 0, none⟩) (by simp; omega) _⟩⟩
        refine ho8.kept (row := some (w.heap.size + 1 + 1)) ⟨rfl, rfl, rfl, by simp [World.setCell], fun k hk hne' => Below.heap_setCell w8 _ _ k (fun e => hne' (by rw [e]))⟩ ?_
        rcases hqq : (Value.slice A8 (pre.length + 1) c8).ownBlock with _ | q
        · exact .inl rfl
        · exact .inr (fun e => by have := hq8 q hqq; injection e with e; omega)
  case done =>
    intro xs W hS hI hlt hK
    subst hS
    obtain ⟨A, n, c, h6, ho, hq⟩ := hI.out
    have h6' : Blk W (w.heap.size + 1 + 1) 23 #[.slice A n c] := h6
    have HG := Lib.hid (pathNames_good HR.out HRL.out hI.names hI.few)
    have u2 := hI.r2.cell 0
    have v2 := hI.r2.frozen 0
    have u3 := hI.r3.cell 0
    have v3 := hI.r3.frozen 0
    have u6 := h6'.cell 0
    simp only [List.getElem?_toArray, List.getElem?_cons_zero] at u2 u3 u6
    have hne : ∀ X, X ≤ w.heap.size + 7 → (Value.slice A n c).ownBlock ≠ some X := fun X hX e => by have := hq _ e; omega
    go_wp2
    have hzD := HZ5.out
    have hK9 : ((W.setCell ⟨w.heap.size, 0, none⟩ (.slice A n c)).setCell ⟨w.heap.size + 1, 0, none⟩ (.bool true)).heap[w5.heap.size]? = some (.deferred (some [])) :=
      (Below.heap_setCell _ _ _ _ (by simp only; omega)).trans ((Below.heap_setCell _ _ _ _ (by simp only; omega)).trans hK)
    refine HQ1.out _ _ _ hK9 ?_
    refine ⟨_, results_cells2 (g := ⟨w.heap.size, 0, none⟩) (k := ⟨w.heap.size + 1, 0, none⟩) rfl rfl rfl Tryz.isAgg23 Tryz.isAgg4 ((blk_put ((hI.r2.set_ 0 (.slice A n c)).far (by simp) _) (by omega) _).cell 0) ((blk_put (Blk.set_ (hI.r3.far (by simp) _) 0 (.bool true)) (by omega) _).cell 0), A, n, c, by rw [HG.out]; rfl, ?_, ?_⟩
    · rw [HG.out]
      refine World.ownsRow.kept (w := (W.setCell ⟨w.heap.size, 0, none⟩ (.slice A n c)).setCell ⟨w.heap.size + 1, 0, none⟩ (.bool true)) ?_ (grownBy_putObj' _ _ _) ?_
      · refine World.ownsRow.kept (w := W.setCell ⟨w.heap.size, 0, none⟩ (.slice A n c)) (row := some (w.heap.size + 1)) ?_ ⟨rfl, rfl, rfl, by simp [World.setCell], fun k hk hne' => Below.heap_setCell _ _ _ k (fun e => hne' (by rw [e]))⟩ (.inr (hne _ (by omega)))
        exact World.ownsRow.kept (w := W) (row := some w.heap.size) ho ⟨rfl, rfl, rfl, by simp [World.setCell], fun k hk hne' => Below.heap_setCell _ _ _ k (fun e => hne' (by rw [e]))⟩ (.inr (hne _ (by omega)))
      · exact .inr (hne _ (by omega))
    · exact below_put ((hI.bel.setCell (p := ⟨w.heap.size, 0, none⟩) (Nat.le_refl _) _).setCell (p := ⟨w.heap.size + 1, 0, none⟩) (by simp) _) (by omega) _
  case stop =>
    intro pre W hS hX hlt hK
    have hzD := HZ5.out
    have HG := Lib.hid hX.none_
    gi_wp2
    refine HQ1.out _ _ _ hK ?_
    refine ⟨_, results_cells2 (g := ⟨w.heap.size, 0, none⟩) (k := ⟨w.heap.size + 1, 0, none⟩) rfl rfl rfl Tryz.isAgg23 Tryz.isAgg4 ((blk_put hX.r2 (by omega) _).cell 0) ((blk_put hX.r3 (by omega) _).cell 0), none, 0, 0, by rw [HG.out]; rfl, by rw [HG.out]; exact World.ownsRow_nil _ _ _ _, below_put hX.bel (by omega) _⟩
end

theorem pathNames_not {l : Txt} (h : l.head? ≠ some 47 ∨ 200 < l.length) : pathNames l = none := by
  cases l with
  | nil => rfl
  | cons c r =>
    show (if c ≠ 47 ∨ 200 < (c :: r).length then none else _) = none
    rw [if_pos]
    rcases h with h | h
    · exact .inl (fun e => h (by rw [e]; rfl))
    · exact .inr h
theorem pathNames_root : pathNames [47] = some [] := rfl
theorem pre1 (l : Txt) : Lib.hasPrefix l [47] = decide (l.head? = some 47) := by
  cases l with
  | nil => rfl
  | cons c r =>
    by_cases hc : c = 47
    · subst hc; simp [Lib.hasPrefix]
    · have h1 : ((47 : UInt8) == c) = false := by simpa using fun e => hc e.symm
      simp [Lib.hasPrefix, List.isPrefixOf, h1, hc]
theorem results_two {w : World} {fn : Func} {tmps : Array Value} {g k : Addr} {x y : Value} (h : fn.results = #[.cell 2 23, .cell 3 4]) (ht : tmps.getD 2 undef = .pointer (some g)) (hu : tmps.getD 3 undef = .pointer (some k)) (hx : w.cell? g = some x) (hy : w.cell? k = some y) :
    (results fn tmps).run Tryz.prog w = .ok (.tuple #[x, y]) w := results_cells2 h ht hu Tryz.isAgg23 Tryz.isAgg4 hx hy

set_option maxRecDepth 100000 in
set_option maxHeartbeats 1000000 in
/-- dirs.Path: a path's names. -/
theorem path_any (l : Txt) (hl : l.length ≤ 1000000000) (w : World) : Calls Tryz.prog 106 #[.string ⟨l.toArray⟩] w (PathPost w l) := by
  by_cases hgo : ∃ r, l = 47 :: r ∧ r ≠ [] ∧ r.length ≤ 199
  · obtain ⟨r, rfl, h1, h2⟩ := hgo
    exact path_loop r h1 h2 w
  have hcp := fun w => Tryz.strings_CutPrefix ⟨l.toArray⟩ ⟨#[47]⟩ w
  obtain ⟨W2, hW2⟩ : ∃ W2, W2 = (w.alloc (.cells #[.slice none 0 0] 23)).alloc (.cells #[.bool false] 4) := ⟨_, rfl⟩
  have hb2 : Below w.heap.size w W2 := by rw [hW2]; exact ((Below.refl _ w).alloc (Nat.le_refl _) _).alloc (by simp) _
  have hr2 : Blk W2 w.heap.size 23 #[.slice none 0 0] := by rw [hW2]; exact (Blk.new _ _ _).alloc _
  have hr3 : Blk W2 (w.heap.size + 1) 4 #[.bool false] := by
    rw [hW2]
    have := Blk.new (w.alloc (.cells #[.slice none 0 0] 23)) 4 #[.bool false]
    rwa [World.size_alloc] at this
  by_cases hbad : l.head? ≠ some 47 ∨ 200 < l.length
  · have HG := Lib.hid (pathNames_not hbad)
    have hq : (l.head? ≠ some 47) ∨ (l.head? = some 47 ∧ 200 < l.length) := by
      by_cases h0 : l.head? = some 47
      · exact .inr ⟨h0, by rcases hbad with h | h; exact absurd h0 h; exact h⟩
      · exact .inl h0
    have e1 : ∀ w, Calls Tryz.prog 132 #[.string ⟨l.toArray⟩, .string ⟨#[47]⟩] w fun e w' => (∃ t, e = .returned (.tuple #[.string t, .bool (decide (l.head? = some 47))])) ∧ w' = w := fun w => (hcp w).mono fun e w' h => by
      obtain ⟨h1, h2⟩ := h
      refine ⟨⟨⟨(Lib.trimPrefix l [47]).toArray⟩, h1.trans ?_⟩, h2⟩
      rw [← pre1 l]
    clear hcp hgo hbad
    rcases hq with h0 | ⟨h0, h200⟩
    · have hd : decide (l.head? = some 47) = false := decide_eq_false h0
      have E1 := Lib.hid (fun w => by have := e1 w; rw [hd] at this; exact this)
      clear e1 hd h0
      go_enter Tryz.func106, Tryz.ntmps106
      go_wp2_with (go_at_call 132; refine (E1.out _).mono ?_; rintro e w' ⟨⟨t, rfl⟩, hw⟩; obtain rfl := hw.symm)
      rw [← hW2]
      refine bodyPost_ret (results_two (g := ⟨w.heap.size, 0, none⟩) (k := ⟨w.heap.size + 1, 0, none⟩) rfl rfl rfl (hr2.cell 0) (hr3.cell 0)) rfl ⟨none, 0, 0, by rw [HG.out]; rfl, by rw [HG.out]; exact World.ownsRow_nil _ _ _ _, hb2⟩
    · have hd : decide (l.head? = some 47) = true := decide_eq_true h0
      have E1 := Lib.hid (fun w => by have := e1 w; rw [hd] at this; exact this)
      clear e1 hd h0
      go_enter Tryz.func106, Tryz.ntmps106
      go_wp2_with (go_at_call 132; refine (E1.out _).mono ?_; rintro e w' ⟨⟨t, rfl⟩, hw⟩; obtain rfl := hw.symm)
      rw [← hW2]
      refine bodyPost_ret (results_two (g := ⟨w.heap.size, 0, none⟩) (k := ⟨w.heap.size + 1, 0, none⟩) rfl rfl rfl (hr2.cell 0) (hr3.cell 0)) rfl ⟨none, 0, 0, by rw [HG.out]; rfl, by rw [HG.out]; exact World.ownsRow_nil _ _ _ _, hb2⟩
  · obtain rfl : l = [47] := by
      have h0 : l.head? = some 47 := Classical.byContradiction fun h => hbad (.inl h)
      have h1 : l.length ≤ 200 := Nat.le_of_not_lt fun h => hbad (.inr h)
      cases l with
      | nil => cases h0
      | cons c r =>
        injection h0 with h0
        subst h0
        by_cases hr : r = []
        · rw [hr]
        · exact absurd ⟨r, rfl, hr, by simp at h1; omega⟩ hgo
    have hcs := fun w => cut_slash [] w
    have hb3 := hb2.alloc hb2.size (.cells #[.slice none 0 0] 23)
    clear hcp hgo hbad
    go_enter Tryz.func106, Tryz.ntmps106
    go_wp2_with (go_at_call 132; refine (hcs _).mono ?_; rintro e w' ⟨rfl, hw⟩; obtain rfl := hw.symm)
    have q2 : Blk (((w.alloc (.cells #[.slice none 0 0] 23)).alloc (.cells #[.bool true] 4)).alloc (.cells #[.slice none 0 0] 23)) w.heap.size 23 #[.slice none 0 0] := ((Blk.new _ _ _).alloc _).alloc _
    have q3 : Blk (((w.alloc (.cells #[.slice none 0 0] 23)).alloc (.cells #[.bool true] 4)).alloc (.cells #[.slice none 0 0] 23)) (w.heap.size + 1) 4 #[.bool true] := by
      have := Blk.new (w.alloc (.cells #[.slice none 0 0] 23)) 4 #[.bool true]
      rw [World.size_alloc] at this
      exact this.alloc _
    refine bodyPost_ret (results_two (g := ⟨w.heap.size, 0, none⟩) (k := ⟨w.heap.size + 1, 0, none⟩) rfl rfl rfl (q2.cell 0) (q3.cell 0)) rfl ⟨none, 0, 0, rfl, World.ownsRow_nil _ _ _ _, (((Below.refl _ w).alloc (Nat.le_refl _) _).alloc (by simp) _).alloc (by simp; omega) _⟩
end Go.Proofs.YtibndaianhlcaaaGreatDoor
