/- What the law DiskEither says, of the plain data; and a copy into bytes that are behind a mark. -/
import Derived.Test.YtbelkkhfjbbldaaDiskSafe
namespace Go.Proofs.Ytbelkkhfjbbldaa
open Go.RowKit Go.ChangeShapes Go.WideShapes
set_option linter.unusedVariables false
set_option linter.unusedSimpArgs false

/-- A block whose mark lies behind its cells: none is frozen. -/
def MBlk (w : World) (g : Nat) (t : TypeId) (cs : Array Value) : Prop := ∃ fz : Nat × Nat, w.heap[g]? = some (.cells cs t fz) ∧ cs.size ≤ fz.1
section
variable {w w' : World} {g : Nat} {t : TypeId} {cs : Array Value}
theorem MBlk.lt (h : MBlk w g t cs) : g < w.heap.size := by
  obtain ⟨fz, h, _⟩ := h
  rcases Nat.lt_or_ge g w.heap.size with hlt | hge
  · exact hlt
  · rw [Array.getElem?_eq_none hge] at h; cases h
theorem MBlk.below {B : Nat} (h : MBlk w g t cs) (hb : Below B w w') (hg : g < B) : MBlk w' g t cs := by
  obtain ⟨fz, h, hf⟩ := h; exact ⟨fz, (hb.block g hg).trans h, hf⟩
theorem MBlk.slc (h : MBlk w g t cs) {n c : Nat} (hl : n ≤ cs.size) (hnc : n ≤ c) (hc : c ≤ maxLen) : Slc w (g + 1) 1 (some ⟨g, 0, none⟩) n c (cs.toList.take n) := by
  obtain ⟨fz, h, _⟩ := h
  exact ⟨by simp; omega, hnc, hc, fun _ => ⟨g, 0, rfl, by omega, fun j u hu => by
    rw [Nat.zero_add, cell_of_row w g j cs t fz h]
    rw [List.getElem?_take] at hu
    split at hu
    · simpa using hu
    · cases hu⟩⟩
end

theorem run_storeCells_mark (P : Program) (g o : Nat) (t : TypeId) (fz : Nat × Nat) : ∀ (vs : List Value) (i : Nat) (cur : Array Value) (w : World), w.heap[g]? = some (.cells cur t fz) → cur.size ≤ fz.1 → o + i + vs.length ≤ cur.size → (∀ v ∈ vs, v.oneCell' = true) →
    (storeCells ⟨g, o, none⟩ vs i).run P w = .ok () (w.setRow g (cur.toList.take (o + i) ++ vs ++ cur.toList.drop (o + i + vs.length)).toArray)
  | [], i, cur, w, hg, _, _, _ => by
    simp only [storeCells, List.append_nil, List.length_nil, Nat.add_zero, List.take_append_drop, Array.toArray_toList]
    rw [setRow_self w g cur t fz hg]
    rfl
  | v :: rest, i, cur, w, hg, hfz, hl, h1 => by
    have hi : o + i < cur.size := by simp at hl; omega
    have hadd : (⟨g, o, none⟩ : Addr).add i = ⟨g, o + i, none⟩ := addr_of_add g o i
    have hcell : w.cell? ⟨g, o + i, none⟩ = some cur[o + i] := by simp [World.cell?, hg, hi]
    have hfro : w.frozen? ⟨g, o + i, none⟩ = false := by
      obtain ⟨lo, hi'⟩ := fz
      simp only [World.frozen?, hg, Bool.and_eq_false_iff, decide_eq_false_iff_not]
      left
      simp only at hfz
      omega
    have hst : (store ((⟨g, o, none⟩ : Addr).add i) v).run P w = .ok () (w.setCell ⟨g, o + i, none⟩ v) := by
      rw [hadd, run_store P w _ v _ (h1 v (by simp)), hcell]
      simp [hfro]
    have hset : (w.setCell ⟨g, o + i, none⟩ v).heap[g]? = some (.cells (cur.setIfInBounds (o + i) v) t fz) := by
      simp [World.setCell, Array.getElem?_modify, hg]
    have ih := run_storeCells_mark P g o t fz rest (i + 1) (cur.setIfInBounds (o + i) v) (w.setCell ⟨g, o + i, none⟩ v) hset (by simpa using hfz) (by simp at hl ⊢; omega) (fun u hu => h1 u (List.mem_cons_of_mem _ hu))
    simp only [storeCells, Sem.run_bind, hst, Result.andThen_ok]
    rw [ih]
    have hrow : ∀ cs' : Array Value, (w.setCell ⟨g, o + i, none⟩ v).setRow g cs' = w.setRow g cs' := by
      intro cs'
      unfold World.setRow World.setCell
      congr 1
      apply Array.ext_getElem?
      intro j
      simp only [Array.getElem?_modify]
      split
      · subst_vars; rw [hg]; rfl
      · rfl
    rw [hrow]
    congr 3
    simp only [Array.toList_setIfInBounds]
    apply List.ext_getElem?
    intro j
    have hk : o + i < cur.toList.length := by simpa using hi
    simp only [List.getElem?_append, List.length_append, List.length_take, List.length_cons, List.length_set, List.getElem?_take, List.getElem?_drop, Nat.min_eq_left (Nat.le_of_lt hk), Nat.min_eq_left (show o + (i + 1) ≤ cur.toList.length by omega)]
    by_cases h1 : j < o + i
    · have h2 : j < o + (i + 1) := by omega
      have h3 : j < o + (i + 1) + rest.length := by omega
      have h4 : j < o + i + (rest.length + 1) := by omega
      simp only [h1, h2, h3, h4, if_true]
      rw [List.getElem?_set_ne (by omega)]
    · by_cases h5 : j = o + i
      · subst h5
        have h2 : o + i < o + (i + 1) := by omega
        have h3 : o + i < o + (i + 1) + rest.length := by omega
        have h4 : o + i < o + i + (rest.length + 1) := by omega
        simp only [h1, h2, h3, h4, if_true, if_false, Nat.sub_self, List.getElem?_cons_zero]
        rw [List.getElem?_set_self hk]
      · have h2 : ¬ j < o + (i + 1) := by omega
        simp only [h1, h2, if_false]
        by_cases h3 : j < o + (i + 1) + rest.length
        · have h4 : j < o + i + (rest.length + 1) := by omega
          simp only [h3, h4, if_true]
          rw [show j - (o + i) = (j - (o + (i + 1))) + 1 by omega, List.getElem?_cons_succ]
        · have h4 : ¬ j < o + i + (rest.length + 1) := by omega
          simp only [h3, h4, if_false]
          rw [List.getElem?_set_ne (by omega)]
          congr 1
          omega

theorem setRow_mark {w : World} {g : Nat} {t : TypeId} {cs : Array Value} {fz : Nat × Nat} (h : w.heap[g]? = some (.cells cs t fz)) (cs' : Array Value) : (w.setRow g cs').heap[g]? = some (.cells cs' t fz) := by
  simp [World.setRow, Array.getElem?_modify, h]

/-- A sector's bytes are copied into some bytes. -/
theorem copy_into {w : World} {g dcap o n : Nat} {cur : Array Value} {bytes x : List UInt8} {A : Nat} (hB : MBlk w g 5 cur) (hcur : cur.toList.take n = bytes.map bv) (hn : bytes.length = n) (hx : x.length = 128) (hsrc : Blk w A 5 (x.map bv).toArray) (ho : o + 128 ≤ n) :
    ∃ w' cur', (CopyS #[23, 23] 3 #[.slice (some ⟨g, o, none⟩) (n - o) dcap, .slice (some ⟨A, 0, none⟩) 128 128]).run Try.prog w = .ok (.int .i64 128) w' ∧ MBlk w' g 5 cur' ∧ cur'.size = cur.size ∧ cur'.toList.take n = (bytes.take o ++ x ++ bytes.drop (o + 128)).map bv ∧ ∀ B, B ≤ g → Below B w w' := by
  have hnc : n ≤ cur.size := by
    have := congrArg List.length hcur
    simp at this
    omega
  obtain ⟨fz, hh, hfz⟩ := hB
  have hsl : ∀ j v, (x.map bv)[j]? = some v → w.cell? ((⟨A, 0, none⟩ : Addr).add j) = some v := fun j v hv => by
    rw [addr_of_add, Nat.zero_add, hsrc.cell]
    simpa using hv
  have hl := run_loadCells_list (P := Try.prog) w ⟨A, 0, none⟩ (x.map bv) hsl
  have hst := run_storeCells_mark Try.prog g o 5 fz (x.map bv) 0 cur w hh hfz (by simp [hx]; omega) (bvs_one _)
  refine ⟨w.setRow g (cur.toList.take (o + 0) ++ x.map bv ++ cur.toList.drop (o + 0 + (x.map bv).length)).toArray, (cur.toList.take (o + 0) ++ x.map bv ++ cur.toList.drop (o + 0 + (x.map bv).length)).toArray, ?_, ⟨fz, setRow_mark hh _, ?_⟩, ?_, ?_, fun B hBg => (Step.setRow (Step.refl w (fun k => k = g)) (.inl rfl) _).below (w := w) (Nat.le_of_lt (Nat.lt_of_le_of_lt hBg (MBlk.lt ⟨fz, hh, hfz⟩))) (fun k hk => by subst hk; exact hBg)⟩
  · unfold CopyS
    have hmin : min 128 (n - o) = 128 := by omega
    have hxl : (x.map bv).length = 128 := by simp [hx]
    have hs1 : (Try.prog.info? 5).map (·.size) = some 1 := by kernel_rfl
    cases hq : Try.prog.info? 5 with
    | none => rw [hq] at hs1; cases hs1
    | some i =>
      have hi : i.size = 1 := by rw [hq] at hs1; simpa using hs1
      rw [hxl] at hl
      simp [Builtin.copy_, run_underlying Try.underlying23, Builtin.lenOf, Builtin.firstCells, sizeOf, typeInfo, hq, hi, hmin, hl, hst, goInt]
  · simp [hx] at *; omega
  · simp [hx]; omega
  · simp only [Nat.add_zero, List.length_map, hx]
    have hL : cur.toList = bytes.map bv ++ cur.toList.drop n := by rw [← hcur, List.take_append_drop]
    generalize cur.toList.drop n = R at hL
    have e1 : (bytes.map bv ++ R).take o = (bytes.map bv).take o := List.take_append_of_le_length (by rw [List.length_map, hn]; omega)
    have e2 : (bytes.map bv ++ R).drop (o + 128) = (bytes.map bv).drop (o + 128) ++ R := List.drop_append_of_le_length (by rw [List.length_map, hn]; omega)
    rw [hL, e1, e2, ← List.append_assoc, List.take_left' (by simp only [List.length_append, List.length_take, List.length_drop, List.length_map, hx, hn]; omega)]
    simp only [List.map_append, List.map_take, List.map_drop]

def SliceS (ty : TypeId) (x : Value) (lo hi mx : Option Value) : Sem Value := Instr.slice ty x lo hi mx
theorem slice_mark (x : Value) (lo hi mx : Option Value) : Instr.slice 23 x lo hi mx = SliceS 23 x lo hi mx := rfl
/-- 'b[z:]', behind z bytes. -/
theorem slice_low {g n cap o : Nat} {z : Int} (hz : z = (o : Int)) (hc : o < cap) (hn : o ≤ n) (w : World) :
    (SliceS 23 (.slice (some ⟨g, 0, none⟩) n cap) (some (.int .i64 z)) none none).run Try.prog w = .ok (.slice (some ⟨g, o, none⟩) (n - o) (cap - o)) w := by
  subst hz
  have hs1 : (Try.prog.info? 5).map (·.size) = some 1 := by kernel_rfl
  unfold SliceS
  cases hq : Try.prog.info? 5 with
  | none => rw [hq] at hs1; cases hs1
  | some i =>
    have hi : i.size = 1 := by rw [hq] at hs1; simpa using hs1
    have hne : ¬ cap = o := by omega
    simp [Instr.slice, Instr.sliceBounds, Instr.sliceBound, run_underlying Try.underlying23, sizeOf, typeInfo, hq, hi, asIntOf, hn, hne, addr_of_add]

/-- A string's bytes, in a variable of their own. -/
theorem bytes_made (w : World) {bytes : List UInt8} {n : Nat} (hn : bytes.length = n) (hm : n ≤ maxLen) :
    ∃ cap w' cur, (convert 9 23 (.string ⟨bytes.toArray⟩)).run Try.prog w = .ok (.slice (some ⟨w.heap.size, 0, none⟩) n cap) w' ∧ Below w.heap.size w w' ∧ w.heap.size < w'.heap.size ∧ MBlk w' w.heap.size 5 cur ∧ cur.toList.take n = bytes.map bv ∧ n ≤ cap ∧ cap ≤ maxLen ∧ n ≤ cur.size := by
  have h := run_bytes_of_string (P := Try.prog) w 9 23 5 ⟨bytes.toArray⟩ Try.underlying9 Try.underlying23 Try.underlying5
  have hsz : (⟨bytes.toArray⟩ : ByteArray).size = n := by rw [← hn]; rfl
  rw [hsz] at h
  refine ⟨_, _, _, h, ((Below.refl _ w).drew).alloc (Nat.le_refl _) _, by simp, ⟨_, heap_alloc_new w.drew _, Nat.le_refl _⟩, ?_, ?_, ?_, ?_⟩
  · show ((bytes.toArray.map (fun b => Value.int .u8 b.toNat)) ++ Array.replicate _ (Value.int .u8 0)).toList.take n = _
    rw [Array.toList_append, List.take_left' (by simp [hn])]
    simp [bv]
  · exact Nat.le_trans (Nat.le_of_eq hsz.symm) (hsz ▸ grownCap_ge _ _ _ _)
  · exact hsz ▸ grownCap_le_maxLen _ _ _ _ (by rw [hsz]; exact hm)
  · show n ≤ ((bytes.toArray.map (fun b => Value.int .u8 b.toNat)) ++ Array.replicate _ (Value.int .u8 0)).size
    simp [hn]

/-! ### The plain law -/
theorem img_length {l : List (List UInt8)} (h : Sectors l) : (imgBytes l).length = l.length * 128 := by
  unfold imgBytes
  induction l with
  | nil => rfl
  | cons s l ih =>
    have h1 := h s List.mem_cons_self
    have h2 := ih (fun x hx => h x (List.mem_cons_of_mem _ hx))
    simp only [List.flatten_cons, List.length_append, List.length_cons] at *
    omega
theorem img_set {l : List (List UInt8)} (h : Sectors l) {i : Nat} (hi : i < l.length) {s : List UInt8} (hs : s.length = 128) :
    imgBytes (l.set i s) = (imgBytes l).take (i * 128) ++ s ++ (imgBytes l).drop (i * 128 + 128) := by
  have e : l = l.take i ++ (l[i] :: l.drop (i + 1)) := by rw [← List.drop_eq_getElem_cons hi, List.take_append_drop]
  have h1 : (imgBytes (l.take i)).length = i * 128 := by rw [img_length (fun x hx => h x (List.mem_of_mem_take hx)), List.length_take]; omega
  have h2 : (l[i]).length = 128 := h _ (List.getElem_mem hi)
  have e1 : imgBytes l = imgBytes (l.take i) ++ (l[i] ++ imgBytes (l.drop (i + 1))) := by
    conv => lhs; rw [e]
    unfold imgBytes
    rw [List.flatten_append, List.flatten_cons]
  have e2 : imgBytes (l.set i s) = imgBytes (l.take i) ++ (s ++ imgBytes (l.drop (i + 1))) := by
    rw [List.set_eq_take_append_cons_drop, if_pos hi]
    simp [imgBytes]
  rw [e2, e1, List.take_left' h1, show i * 128 + 128 = (imgBytes (l.take i)).length + 128 by omega, List.drop_length_add_append, List.drop_left' h2, List.append_assoc]

/-- The image that is wanted. -/
def putImg (b : Bool) (i : Nat) (s bytes : List UInt8) : List UInt8 := if b then bytes.take (i * 128) ++ s ++ bytes.drop (i * 128 + 128) else bytes
def eitherD (E : DiskM) (N a b : Nat) (k : UInt64) : DiskM := (((E.write N (a : Int) (fulls 201)).write N (b : Int) (fulls 202)).crash k).start
theorem either_facts {E : DiskM} {N : Nat} (h : Still E N) {a b : Nat} (ha : a < N) (hb : b < N) (k : UInt64) :
    E.loose.length ≤ 1000000 ∧ (E.write N (a : Int) (fulls 201)).loose.length ≤ 1000000 ∧ (eitherD E N a b k).up = true ∧ (eitherD E N a b k).loose = [] ∧
    imgBytes (eitherD E N a b k).now = putImg (keeps k 1) b (fulls 202) (putImg (keeps k 0) a (fulls 201) (imgBytes E.now)) := by
  have hw : ∀ (D : DiskM) (i : Nat) (c : UInt8), D.up = true → D.armed = false → i < N → D.write N (i : Int) (fulls c) = { D.deed with now := D.now.set i (fulls c), loose := D.loose ++ [(i, fulls c)] } := fun D i c hu ha hi => by
    unfold DiskM.write
    rw [if_neg (by unfold DiskM.mayE; rw [if_neg (by simp [hu]), if_pos (by omega)]; simp), if_neg (by simp [fulls]), if_neg (by simp [DiskM.fails, ha])]
    simp
  have h1 := hw E a 201 h.up h.armed ha
  have h2 := hw (E.write N (a : Int) (fulls 201)) b 202 (by rw [h1]; exact h.up) (by rw [h1]; exact h.armed) hb
  have hup2 : ((E.write N (a : Int) (fulls 201)).write N (b : Int) (fulls 202)).up = true := by rw [h2, h1]; exact h.up
  have hl2 : ((E.write N (a : Int) (fulls 201)).write N (b : Int) (fulls 202)).loose = [(a, fulls 201), (b, fulls 202)] := by rw [h2, h1]; show E.loose ++ _ ++ _ = _; rw [h.loose]; rfl
  have hs2 : ((E.write N (a : Int) (fulls 201)).write N (b : Int) (fulls 202)).safe = E.now := by rw [h2, h1]; exact h.safe
  refine ⟨by rw [h.loose]; exact Nat.zero_le _, by rw [h1]; show (E.loose ++ _).length ≤ _; rw [h.loose]; exact (by decide : 1 ≤ 1000000), rfl, ?_, ?_⟩
  · unfold eitherD DiskM.crash
    rw [if_neg (by simp [hup2])]
    rfl
  · unfold eitherD DiskM.crash
    rw [if_neg (by simp [hup2])]
    show imgBytes (crashed k _ _) = _
    rw [hl2, hs2]
    have hS := h.ok.now
    have hL := h.ok.nowLen
    have e : crashed k [(a, fulls 201), (b, fulls 202)] E.now = if keeps k 1 then (if keeps k 0 then E.now.set a (fulls 201) else E.now).set b (fulls 202) else (if keeps k 0 then E.now.set a (fulls 201) else E.now) := rfl
    rw [e]
    have hin : imgBytes (if keeps k 0 then E.now.set a (fulls 201) else E.now) = putImg (keeps k 0) a (fulls 201) (imgBytes E.now) := by
      cases keeps k 0
      · rfl
      · exact img_set hS (by omega) (fulls_length _)
    have hS1 : Sectors (if keeps k 0 then E.now.set a (fulls 201) else E.now) := by
      split
      · exact hS.set _ (fulls_length _)
      · exact hS
    have hL1 : (if keeps k 0 then E.now.set a (fulls 201) else E.now).length = N := by split <;> simp [hL]
    rw [← hin]
    generalize (if keeps k 0 then E.now.set a (fulls 201) else E.now) = S1 at *
    cases keeps k 1
    · rfl
    · exact img_set hS1 (by omega) (fulls_length _)

theorem test_one (k : UInt64) : (bits BinOp.and IntKind.u64 (k.toNat : Int) 1 == 1) = keeps k 0 := by
  have := keeps_test k 0
  simpa using this
theorem test_two (k : UInt64) : (bits BinOp.and IntKind.u64 (k.toNat : Int) 2 == 2) = keeps k 1 := by
  rw [show (2 : Int) = ((2 : Nat) : Int) from rfl, u64_and_nat _ _ k.toNat_lt (by decide)]
  unfold keeps
  have h : k.toNat &&& 2 = if k.toNat.testBit 1 then 2 else 0 := by
    apply Nat.eq_of_testBit_eq
    intro i
    rw [Nat.testBit_and, show (2 : Nat) = 2 ^ 1 from rfl, Nat.testBit_two_pow]
    by_cases hi : 1 = i
    · subst hi
      cases k.toNat.testBit 1 <;> decide
    · cases k.toNat.testBit 1
      · simp [hi]
      · simp only [hi, decide_false, Bool.and_false, if_true]
        rw [Nat.testBit_two_pow]
        simp [hi]
  rw [show ((1 : Nat) % 64) = 1 from rfl, h]
  cases k.toNat.testBit 1 <;> rfl
end Go.Proofs.Ytbelkkhfjbbldaa
