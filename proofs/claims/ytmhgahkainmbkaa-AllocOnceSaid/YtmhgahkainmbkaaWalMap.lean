/- Maps from homes to sectors, as they lie in memory. -/
import Derived.Test.YtmhgahkainmbkaaWalCtl
import Derived.MapKept
namespace Go.Proofs.Ytmhgahkainmbkaa
open Go.RowKit Go.MapKept
set_option linter.unusedVariables false
set_option linter.unusedSimpArgs false

def secV (l : List UInt8) : Value := .agg (l.map bv).toArray
def entOf (e : MapEntry) : Value × Value := (e.key, e.val)
def encE (x : Nat × List UInt8) : Value × Value := (.int .i64 (x.1 : Int), secV x.2)
/-- Block g is a map that holds m. -/
def MapAt (w : World) (g : Nat) (m : SecMap) : Prop :=
  ∃ es clock, w.heap[g]? = some (.map es clock) ∧ Stamped es clock ∧ Rising m ∧ ∃ l : SecMap, l.Perm m ∧ es.toList.map entOf = l.map encE

def objSet (w : World) (g : Nat) (o : Obj) : World := { w with heap := w.heap.setIfInBounds g o }
theorem objSet_far {w : World} {g k : Nat} (h : k ≠ g) (o : Obj) : (objSet w g o).heap[k]? = w.heap[k]? := by
  unfold objSet
  exact Array.getElem?_setIfInBounds_ne (Ne.symm h)
theorem objSet_size (w : World) (g : Nat) (o : Obj) : (objSet w g o).heap.size = w.heap.size := by simp [objSet]
theorem Step.objSet {a w : World} {F G : Nat → Prop} (h : Step a w F G) {g : Nat} (hp : F g ∨ a.heap.size ≤ g) (o : Obj) : Step a (objSet w g o) F G :=
  ⟨h.os, h.tape, h.output, by rw [objSet_size]; exact h.size, fun k hk hn => by
    rw [objSet_far (by rintro rfl; rcases hp with hp | hp; exact hn hp; omega)]; exact h.block k hk hn, h.next⟩

section
variable {w w' : World} {g : Nat} {m : SecMap}
theorem MapAt.rising (h : MapAt w g m) : Rising m := by obtain ⟨_, _, _, _, h, _⟩ := h; exact h
theorem MapAt.kept (h : MapAt w g m) (hk : w'.heap[g]? = w.heap[g]?) : MapAt w' g m := by
  obtain ⟨es, clock, h1, h2⟩ := h
  exact ⟨es, clock, hk.trans h1, h2⟩
theorem MapAt.lt (h : MapAt w g m) : g < w.heap.size := by
  obtain ⟨es, clock, h1, h2⟩ := h
  exact (Array.getElem?_eq_some_iff.1 h1).1
theorem MapAt.step {F G : Nat → Prop} (h : MapAt w g m) (s : Step w w' F G) (hn : ¬ F g) : MapAt w' g m := h.kept (s.block g h.lt hn)
theorem MapAt.below {B : Nat} (h : MapAt w g m) (hb : Below B w w') (hg : g < B) : MapAt w' g m := h.kept (hb.block g hg)
theorem MapAt.far {g' : Nat} {t : TypeId} {cs : Array Value} (h : MapAt w g m) (hB : Blk w g' t cs) : g ≠ g' := by
  rintro rfl
  obtain ⟨es, clock, h1, _⟩ := h
  unfold Blk at hB
  rw [hB] at h1
  cases h1
theorem MapAt.new (w : World) : MapAt (w.alloc (.map #[] 0)) w.heap.size [] :=
  ⟨#[], 0, heap_alloc_new w _, stamped_empty 0, List.Pairwise.nil, [], List.Perm.refl _, rfl⟩

theorem encE_keys {es : Array MapEntry} {l : SecMap} (h : es.toList.map entOf = l.map encE) : ∀ x ∈ es.toList, ∃ y ∈ l, x.key = .int .i64 (y.1 : Int) ∧ x.val = secV y.2 := by
  intro x hx
  have : entOf x ∈ l.map encE := by rw [← h]; exact List.mem_map_of_mem hx
  obtain ⟨y, hy, e⟩ := List.mem_map.1 this
  have e' := Prod.ext_iff.1 e
  exact ⟨y, hy, e'.1.symm, e'.2.symm⟩
theorem int_key {a b : Nat} (h : (Value.int .i64 (a : Int)) = .int .i64 (b : Int)) : a = b := by
  injection h with _ h
  omega

/-- What is found at a key. -/
theorem MapAt.find (h : MapAt w g m) (k : Nat) : ∃ es clock, ∃ l : SecMap, w.heap[g]? = some (.map es clock) ∧ Stamped es clock ∧ l.Perm m ∧ es.toList.map entOf = l.map encE ∧
    ((Instr.findNow (.int .i64) (.int .i64 (k : Int)) es.toList 0 = some none ∧ mget m k = none ∧ (∀ x ∈ es.toList, x.key ≠ .int .i64 (k : Int))) ∨
      ∃ j e v, Instr.findNow (.int .i64) (.int .i64 (k : Int)) es.toList 0 = some (some (j, e.val)) ∧ es.toList[j]? = some e ∧ e.key = .int .i64 (k : Int) ∧ e.val = secV v ∧ mget m k = some v ∧ l[j]? = some (k, v)) := by
  obtain ⟨es, clock, h1, h2, h3, l, h4, h5⟩ := h
  refine ⟨es, clock, l, h1, h2, h4, h5, ?_⟩
  have hks : ∀ x ∈ es.toList, IsKey (.int .i64) x.key := fun x hx => by
    obtain ⟨y, _, e, _⟩ := encE_keys h5 x hx
    rw [e]; rfl
  rcases findNow_spec (d := .int .i64) (k := .int .i64 (k : Int)) rfl es.toList 0 hks with ⟨f1, f2⟩ | ⟨j, e, f1, f2, f3⟩
  · refine .inl ⟨f1, ?_, f2⟩
    rw [mget_none]
    intro y hy e
    have hyl := h4.mem_iff.2 hy
    have : encE y ∈ es.toList.map entOf := by rw [h5]; exact List.mem_map_of_mem hyl
    obtain ⟨x, hx, ex⟩ := List.mem_map.1 this
    have ex' := Prod.ext_iff.1 ex
    exact f2 x hx (by rw [show x.key = _ from ex'.1]; simp [encE, e])
  · have hj : (es.toList.map entOf)[j]? = some (entOf e) := by rw [List.getElem?_map, f2]; rfl
    rw [h5, List.getElem?_map] at hj
    cases hlj : l[j]? with
    | none => rw [hlj] at hj; cases hj
    | some y =>
      rw [hlj] at hj
      injection hj with hj
      have hj' := Prod.ext_iff.1 hj
      obtain ⟨a, v⟩ := y
      have ha : a = k := int_key (by have := hj'.1; simp only [encE, entOf] at this; rw [f3] at this; exact this)
      subst ha
      have hv : e.val = secV v := hj'.2.symm
      refine .inr ⟨j, e, v, by rw [f1, Nat.zero_add], f2, f3, hv, ?_, hlj⟩
      rw [mget_some h3]
      exact h4.mem_iff.1 (List.mem_of_getElem? hlj)
end

def LookS (t : TypeId) (x k : Value) (ok : Bool) : Sem Value := Instr.lookup t x k ok
def MapSetS (t : TypeId) (x k v : Value) : Sem Unit := Instr.mapUpdate t x k v
def ClearS (ts : Array TypeId) (t : TypeId) (xs : Array Value) : Sem Value := Builtin.clear_ ts t xs
theorem look_mark (x k : Value) (ok : Bool) : Instr.lookup 75 x k ok = LookS 75 x k ok := rfl
theorem mapSet_mark (x k v : Value) : Instr.mapUpdate 75 x k v = MapSetS 75 x k v := rfl
theorem clear_mark (ts : Array TypeId) (t : TypeId) (xs : Array Value) : Builtin.clear_ ts t xs = ClearS ts t xs := rfl
def zsec : List UInt8 := List.replicate 128 0
theorem zsec_val : Value.agg Try.zeroCells80 = secV zsec := by kernel_rfl

/-- What a look-up tells. -/
def lookV (m : SecMap) (k : Nat) : List UInt8 := (mget m k).getD zsec
theorem LookS.ok {w : World} {g : Nat} {m : SecMap} (h : MapAt w g m) (k : Nat) :
    (LookS 75 (.map (some g)) (.int .i64 (k : Int)) true).run Try.prog w = .ok (.tuple #[secV (lookV m k), .bool (mget m k).isSome]) w := by
  obtain ⟨es, clock, l, h1, h2, h3, h4, ⟨f1, f2, _⟩ | ⟨j, e, v, f1, f2, f3, f4, f5, _⟩⟩ := h.find k
  · unfold LookS
    simp [Instr.lookup, run_underlying Try.underlying75, MapKept.run_getObj_map h1, run_checkKey Try.underlying3 (k := .int .i64 (k : Int)) rfl, run_findKey Try.underlying3 f1, Result.andThen, zsec_val, lookV, f2]
  · unfold LookS
    simp [Instr.lookup, run_underlying Try.underlying75, MapKept.run_getObj_map h1, run_checkKey Try.underlying3 (k := .int .i64 (k : Int)) rfl, run_findKey Try.underlying3 f1, Result.andThen, lookV, f5, f4]
theorem LookS.plain {w : World} {g : Nat} {m : SecMap} (h : MapAt w g m) (k : Nat) :
    (LookS 75 (.map (some g)) (.int .i64 (k : Int)) false).run Try.prog w = .ok (secV (lookV m k)) w := by
  obtain ⟨es, clock, l, h1, h2, h3, h4, ⟨f1, f2, _⟩ | ⟨j, e, v, f1, f2, f3, f4, f5, _⟩⟩ := h.find k
  · unfold LookS
    simp [Instr.lookup, run_underlying Try.underlying75, MapKept.run_getObj_map h1, run_checkKey Try.underlying3 (k := .int .i64 (k : Int)) rfl, run_findKey Try.underlying3 f1, Result.andThen, zsec_val, lookV, f2]
  · unfold LookS
    simp [Instr.lookup, run_underlying Try.underlying75, MapKept.run_getObj_map h1, run_checkKey Try.underlying3 (k := .int .i64 (k : Int)) rfl, run_findKey Try.underlying3 f1, Result.andThen, lookV, f5, f4]

theorem cons_erase_perm {α : Type} : ∀ (l : List α) (j : Nat) (h : j < l.length), (l[j] :: l.eraseIdx j).Perm l
  | [], _, h => by simp at h
  | a :: l, 0, _ => List.Perm.refl _
  | a :: l, j + 1, h => (List.Perm.swap _ _ _).trans (List.Perm.cons a (cons_erase_perm l j (by simpa using h)))
theorem set_perm {m l : SecMap} (hm : Rising m) (hp : l.Perm m) {j k : Nat} {u : List UInt8} (x : List UInt8) (hj : l[j]? = some (k, u)) : (l.set j (k, x)).Perm (mput m k x) := by
  have hjl : j < l.length := (List.getElem?_eq_some_iff.1 hj).1
  have hlj : l[j] = (k, u) := (List.getElem?_eq_some_iff.1 hj).2
  have hmem : (k, u) ∈ m := hp.mem_iff.1 (by rw [← hlj]; exact List.getElem_mem hjl)
  have e1 : l.Perm ((k, u) :: l.eraseIdx j) := by
    rw [← hlj]; exact (cons_erase_perm l j hjl).symm
  have e2 : (l.set j (k, x)).Perm ((k, x) :: l.eraseIdx j) := by
    have hjs : j < (l.set j (k, x)).length := by simpa using hjl
    have := (cons_erase_perm _ j hjs).symm
    rwa [List.getElem_set_self, List.eraseIdx_set_eq] at this
  have key : ∀ m : SecMap, Rising m → (k, u) ∈ m → ∃ r, m.Perm ((k, u) :: r) ∧ (mput m k x).Perm ((k, x) :: r) := by
    intro m
    induction m with
    | nil => intro _ h; cases h
    | cons z m ih =>
      obtain ⟨a, b⟩ := z
      intro hm h
      have hh := hm.head
      rcases List.mem_cons.1 h with h | h
      · injection h with h1 h2
        subst h1 h2
        exact ⟨m, List.Perm.refl _, by unfold mput; rw [if_neg (Nat.lt_irrefl _), if_pos rfl]⟩
      · obtain ⟨r, p1, p2⟩ := ih hm.tail h
        have hlt := hh _ h
        refine ⟨(a, b) :: r, (List.Perm.cons _ p1).trans (List.Perm.swap _ _ _), ?_⟩
        unfold mput
        rw [if_neg (by omega), if_neg (by simp only at hlt; omega)]
        exact (List.Perm.cons _ p2).trans (List.Perm.swap _ _ _)
  obtain ⟨r, p1, p2⟩ := key m hm hmem
  have : (l.eraseIdx j).Perm r := (List.perm_cons (k, u)).1 (e1.symm.trans (hp.trans p1))
  exact e2.trans ((List.Perm.cons _ this).trans p2.symm)
theorem push_perm {m l : SecMap} (hm : Rising m) (hp : l.Perm m) {k : Nat} (x : List UInt8) (h : mget m k = none) : (l ++ [(k, x)]).Perm (mput m k x) := by
  have key : ∀ m : SecMap, Rising m → mget m k = none → (mput m k x).Perm ((k, x) :: m) := by
    intro m
    induction m with
    | nil => intro _ _; exact List.Perm.refl _
    | cons z m ih =>
      obtain ⟨a, b⟩ := z
      intro hm h
      have hka : k ≠ a := by
        intro e; rw [mget, if_pos e] at h; cases h
      rw [mget, if_neg hka] at h
      unfold mput
      by_cases h1 : k < a
      · rw [if_pos h1]
      · rw [if_neg h1, if_neg hka]
        exact (List.Perm.cons _ (ih hm.tail h)).trans (List.Perm.swap _ _ _)
  exact (List.perm_append_comm).trans (((List.Perm.cons _ hp)).trans (key m hm h).symm)

/-- A store into a map. -/
theorem MapSetS.ok {w : World} {g : Nat} {m : SecMap} (h : MapAt w g m) (k : Nat) (x : List UInt8) :
    ∃ o, (MapSetS 75 (.map (some g)) (.int .i64 (k : Int)) (secV x)).run Try.prog w = .ok () (objSet w g o) ∧ MapAt (objSet w g o) g (mput m k x) := by
  have hr := h.rising
  obtain ⟨es, clock, l, h1, h2, h3, h4, ⟨f1, f2, f3⟩ | ⟨j, e, v, f1, f2, f3, f4, f5, f6⟩⟩ := h.find k
  · refine ⟨.map (es.push { key := .int .i64 (k : Int), val := secV x, born := clock }) (clock + 1), ?_, ?_⟩
    · unfold MapSetS
      simp [Instr.mapUpdate, run_underlying Try.underlying75, MapKept.run_getObj_map h1, run_checkKey Try.underlying3 (k := .int .i64 (k : Int)) rfl, run_findKey Try.underlying3 f1, run_setObj_map _ h1, Result.andThen, objSet]
    · exact ⟨_, _, (heap_set h1).1, stamped_push h2 f3, mput_rising hr _ _, l ++ [(k, x)], push_perm hr h3 x f2, by simp [h4, entOf, encE]⟩
  · have hj : es[j]? = some e := by simpa using f2
    refine ⟨.map (es.modify j fun e => { e with key := .int .i64 (k : Int), val := secV x }) clock, ?_, ?_⟩
    · unfold MapSetS
      simp [Instr.mapUpdate, run_underlying Try.underlying75, MapKept.run_getObj_map h1, run_checkKey Try.underlying3 (k := .int .i64 (k : Int)) rfl, run_findKey Try.underlying3 f1, run_setObj_map _ h1, Result.andThen, objSet, hj, f3, run_keyThatStays (d := .int .i64) (k := .int .i64 (k : Int)) rfl]
    · have hkey : ∀ e', es[j]? = some e' → ({ e' with key := .int .i64 (k : Int), val := secV x } : MapEntry).key = e'.key := fun e' he' => by rw [hj] at he'; cases he'; exact f3.symm
      refine ⟨_, _, (heap_set h1).1, stamped_modify h2 _ _ (fun _ _ => rfl) (fun e' _ he' => hkey e' he'), mput_rising hr _ _, l.set j (k, x), set_perm hr h3 x f6, ?_⟩
      apply List.ext_getElem?
      intro i
      have hi : (es.toList.map entOf)[i]? = (l.map encE)[i]? := by rw [h4]
      simp only [List.getElem?_map] at hi
      simp only [List.getElem?_map, Array.getElem?_toList, Array.getElem?_modify, List.getElem?_set]
      by_cases hij : j = i
      · subst hij
        have hjl : j < l.length := (List.getElem?_eq_some_iff.1 f6).1
        simp [hj, hjl, entOf, encE]
      · simp only [if_neg hij]
        simpa using hi
theorem ClearS.ok {w : World} {g : Nat} {m : SecMap} (h : MapAt w g m) :
    ∃ o, (ClearS #[75] 0 #[.map (some g)]).run Try.prog w = .ok (.tuple #[]) (objSet w g o) ∧ MapAt (objSet w g o) g [] := by
  obtain ⟨es, clock, h1, h2, h3, l, h4, h5⟩ := h
  refine ⟨.map #[] clock, ?_, _, _, (heap_set h1).1, stamped_empty _, List.Pairwise.nil, [], List.Perm.refl _, rfl⟩
  unfold ClearS
  simp [Builtin.clear_, run_underlying Try.underlying75, MapKept.run_getObj_map h1, run_setObj_map _ h1, Result.andThen, objSet]
def LenS (ts : Array TypeId) (t : TypeId) (xs : Array Value) : Sem Value := Builtin.len_ ts t xs
theorem len_map_mark (t : TypeId) (x : Value) : Builtin.len_ #[75] t #[x] = LenS #[75] t #[x] := rfl
theorem LenS.ok {w : World} {g : Nat} {m : SecMap} (h : MapAt w g m) : (LenS #[75] 3 #[.map (some g)]).run Try.prog w = .ok (.int .i64 (m.length : Int)) w := by
  obtain ⟨es, clock, h1, h2, h3, l, h4, h5⟩ := h
  have : es.size = m.length := by
    have h6 : es.toList.length = l.length := by have := congrArg List.length h5; simpa using this
    rw [← h4.length_eq, ← h6, Array.length_toList]
  unfold LenS
  simp [Builtin.len_, run_underlying Try.underlying75, MapKept.run_getObj_map h1, Result.andThen, this, goInt]
end Go.Proofs.Ytmhgahkainmbkaa
