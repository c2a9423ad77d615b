/- The disk as plain data, and how it lies in memory. The walks of the disk's small methods. The walks of the disk's Crash, fails, Arm, Start. The walks of the disk's fails, Arm, Start, Flush. The walks of the disk's Flush and Write. The walk of the disk's Write. The walks of disk.New, Clone and of the law's small helper full. The walk of the disk's Clone. -/
import Derived.Test.YtmhgahkainmbkaaMarks
namespace Go.Proofs.Ytmhgahkainmbkaa
open Go.RowKit

structure DiskM where
  safe : List (List UInt8)
  now : List (List UInt8)
  loose : List (Nat × List UInt8)
  up : Bool
  deeds : Int
  armed : Bool
  after : Int
  keep : UInt64

/-- Sectors as cells. -/
def flat (l : List (List UInt8)) : List Value := l.flatMap fun s => s.map bv
def looseCells (x : Nat × List UInt8) : List Value := .int .i64 (x.1 : Int) :: x.2.map bv
def flatLoose (l : List (Nat × List UInt8)) : List Value := l.flatMap looseCells

def Sectors (l : List (List UInt8)) : Prop := ∀ s ∈ l, s.length = 128

theorem flat_length {l : List (List UInt8)} (h : Sectors l) : (flat l).length = l.length * 128 := by
  induction l with
  | nil => rfl
  | cons s l ih =>
    have h1 := h s (List.mem_cons_self)
    have h2 := ih (fun x hx => h x (List.mem_cons_of_mem _ hx))
    simp only [flat, List.flatMap_cons, List.length_append, List.length_map, List.length_cons] at h2 ⊢
    omega
theorem flat_append (l m : List (List UInt8)) : flat (l ++ m) = flat l ++ flat m := by simp [flat]
theorem flat_take {l : List (List UInt8)} (h : Sectors l) (i : Nat) (hi : i ≤ l.length) : (flat l).take (i * 128) = flat (l.take i) := by
  have e : flat l = flat (l.take i) ++ flat (l.drop i) := by rw [← flat_append, List.take_append_drop]
  rw [e, List.take_left']
  rw [flat_length (fun s hs => h s (List.mem_of_mem_take hs)), List.length_take]
  omega
theorem flat_drop {l : List (List UInt8)} (h : Sectors l) (i : Nat) (hi : i ≤ l.length) : (flat l).drop (i * 128) = flat (l.drop i) := by
  have e : flat l = flat (l.take i) ++ flat (l.drop i) := by rw [← flat_append, List.take_append_drop]
  rw [e, List.drop_left']
  rw [flat_length (fun s hs => h s (List.mem_of_mem_take hs)), List.length_take]
  omega
theorem flat_at {l : List (List UInt8)} (h : Sectors l) (i : Nat) (hi : i < l.length) : ((flat l).drop (i * 128)).take 128 = (l[i]).map bv := by
  rw [flat_drop h i (by omega), List.drop_eq_getElem_cons hi]
  simp only [flat, List.flatMap_cons]
  rw [List.take_left']
  simpa using h _ (List.getElem_mem hi)
theorem flat_set {l : List (List UInt8)} (h : Sectors l) (i : Nat) (hi : i < l.length) (s : List UInt8) (hs : s.length = 128) :
    (flat l).take (i * 128) ++ s.map bv ++ (flat l).drop (i * 128 + (s.map bv).length) = flat (l.set i s) := by
  rw [List.length_map, hs, show i * 128 + 128 = (i + 1) * 128 by omega, flat_take h i (by omega), flat_drop h (i + 1) (by omega), List.set_eq_take_append_cons_drop, if_pos hi, flat_append, List.append_assoc]
  rfl
theorem Sectors.set {l : List (List UInt8)} (h : Sectors l) (i : Nat) {s : List UInt8} (hs : s.length = 128) : Sectors (l.set i s) := fun x hx => by
  rcases List.mem_or_eq_of_mem_set hx with h1 | rfl
  · exact h x h1
  · exact hs

def Looses (N : Nat) (l : List (Nat × List UInt8)) : Prop := ∀ x ∈ l, x.1 < N ∧ x.2.length = 128
theorem looseCells_length {N : Nat} {x : Nat × List UInt8} (h : x.1 < N ∧ x.2.length = 128) : (looseCells x).length = 129 := by simp [looseCells, h.2]
theorem flatLoose_append (l m : List (Nat × List UInt8)) : flatLoose (l ++ m) = flatLoose l ++ flatLoose m := by simp [flatLoose]
theorem flatLoose_length {N : Nat} {l : List (Nat × List UInt8)} (h : Looses N l) : (flatLoose l).length = l.length * 129 := by
  induction l with
  | nil => rfl
  | cons s l ih =>
    have h1 := looseCells_length (h s (List.mem_cons_self))
    have h2 := ih (fun x hx => h x (List.mem_cons_of_mem _ hx))
    simp only [flatLoose, List.flatMap_cons, List.length_append, List.length_cons] at h2 ⊢
    omega
theorem flatLoose_at {N : Nat} {l : List (Nat × List UInt8)} (h : Looses N l) (i : Nat) (hi : i < l.length) : ((flatLoose l).drop (i * 129)).take 129 = looseCells l[i] := by
  have e : flatLoose l = flatLoose (l.take i) ++ flatLoose (l.drop i) := by rw [← flatLoose_append, List.take_append_drop]
  rw [e, List.drop_left' (by rw [flatLoose_length (N := N) (fun x hx => h x (List.mem_of_mem_take hx)), List.length_take]; omega), List.drop_eq_getElem_cons hi]
  simp only [flatLoose, List.flatMap_cons]
  rw [List.take_left' (looseCells_length (h _ (List.getElem_mem hi)))]

/-- A disk of N sectors that may be. -/
structure DiskM.Ok (D : DiskM) (N : Nat) : Prop where
  pos : 1 ≤ N
  most : N ≤ 1024
  safeLen : D.safe.length = N
  nowLen : D.now.length = N
  safe : Sectors D.safe
  now : Sectors D.now
  loose : Looses N D.loose

/-- How it lies in memory: F: the blocks that are its own. -/
structure DiskAt (w : World) (F : Nat → Prop) (p N : Nat) (D : DiskM) (vs vn vl : Value) : Prop where
  ok : D.Ok N
  foot : F p
  head : Blk w p 112 #[vs, vn, vl, .bool D.up, .int .i64 D.deeds, .bool D.armed, .int .i64 D.after, .int .u64 (D.keep.toNat : Int)]
  safe : Row w F 113 128 vs N (flat D.safe)
  now : Row w F 113 128 vn N (flat D.now)
  loose : Row w F 119 129 vl D.loose.length (flatLoose D.loose)
  apart : vs.ownBlock ≠ vn.ownBlock

/-- The head's cells, for a walk. -/
theorem head_cells {w : World} {p : Nat} {t : TypeId} {a0 a1 a2 a3 a4 a5 a6 a7 : Value} (h : Blk w p t #[a0, a1, a2, a3, a4, a5, a6, a7]) :
    w.cell? ⟨p, 0, none⟩ = some a0 ∧ w.cell? ⟨p, 1, none⟩ = some a1 ∧ w.cell? ⟨p, 2, none⟩ = some a2 ∧ w.cell? ⟨p, 3, none⟩ = some a3 ∧ w.cell? ⟨p, 4, none⟩ = some a4 ∧ w.cell? ⟨p, 5, none⟩ = some a5 ∧ w.cell? ⟨p, 6, none⟩ = some a6 ∧ w.cell? ⟨p, 7, none⟩ = some a7 ∧
      (∀ i, w.frozen? ⟨p, i, none⟩ = false) :=
  ⟨h.cell 0, h.cell 1, h.cell 2, h.cell 3, h.cell 4, h.cell 5, h.cell 6, h.cell 7, h.frozen⟩

theorem DiskAt.step {w w' : World} {F G K : Nat → Prop} {p N : Nat} {D : DiskM} {vs vn vl : Value} (h : DiskAt w F p N D vs vn vl) (s : Step w w' G K) (hd : ∀ k, F k → ¬ G k) : DiskAt w' F p N D vs vn vl :=
  ⟨h.ok, h.foot, h.head.step s (hd p h.foot), h.safe.step s hd, h.now.step s hd, h.loose.step s hd, h.apart⟩

theorem DiskAt.free {w w' : World} {F : Nat → Prop} {p N : Nat} {D : DiskM} {vs vn vl : Value} (h : DiskAt w F p N D vs vn vl) (hb : Below w.heap.size w w') : DiskAt w' F p N D vs vn vl :=
  h.step (Step.of_below hb (fun _ => False)) (fun _ _ h => h)
theorem DiskAt.alloc {w : World} {F : Nat → Prop} {p N : Nat} {D : DiskM} {vs vn vl : Value} (h : DiskAt w F p N D vs vn vl) (o : Obj) : DiskAt (w.alloc o) F p N D vs vn vl :=
  h.free ((Below.refl _ _).alloc (Nat.le_refl _) o)
theorem DiskAt.drew {w : World} {F : Nat → Prop} {p N : Nat} {D : DiskM} {vs vn vl : Value} (h : DiskAt w F p N D vs vn vl) : DiskAt w.drew F p N D vs vn vl :=
  h.free (Below.refl _ _).drew
theorem DiskAt.drewN {w : World} {F : Nat → Prop} {p N : Nat} {D : DiskM} {vs vn vl : Value} (h : DiskAt w F p N D vs vn vl) (n : Nat) : DiskAt (w.drewN n) F p N D vs vn vl :=
  h.free ⟨rfl, rfl, rfl, Nat.le_refl _, fun _ _ => rfl⟩

theorem setRow_far {w : World} {g k : Nat} (h : k ≠ g) (cs : Array Value) : (w.setRow g cs).heap[k]? = w.heap[k]? := by
  simp only [World.setRow, Array.getElem?_modify]
  rw [if_neg (fun e => h e.symm)]

theorem own_ne {w : World} {F : Nat → Prop} {g : Nat} {t e : TypeId} {cs : Array Value} {sz n : Nat} {v : Value} {xs : List Value} (hb : Blk w g t cs) (h : Row w F e sz v n xs) (hne : t ≠ e) : ∀ k, v.ownBlock = some k → k ≠ g := by
  intro k hk e1
  subst e1
  rcases h.own.2 with ⟨rfl, _⟩ | ⟨g', cap, cur, rfl, _, h2, _⟩
  · cases hk
  · injection hk with hk
    simp only at hk
    subst hk
    exact Blk.ne_ hb h2 hne rfl

/-- A sector of the safe ones is written anew. -/
theorem DiskAt.putSafe {w : World} {F : Nat → Prop} {p N : Nat} {D : DiskM} {vn vl : Value} {gs caps : Nat} (h : DiskAt w F p N D (.slice (some ⟨gs, 0, none⟩) N caps) vn vl) {curs : Array Value} (hB : Blk w gs 113 curs)
    {i : Nat} (hi : i < N) {s : List UInt8} (hs : s.length = 128) :
    DiskAt (w.setRow gs (curs.toList.take (i * 128) ++ s.map bv ++ curs.toList.drop (i * 128 + (s.map bv).length)).toArray) F p N { D with safe := D.safe.set i s } (.slice (some ⟨gs, 0, none⟩) N caps) vn vl := by
  refine ⟨⟨h.ok.pos, h.ok.most, by simpa using h.ok.safeLen, h.ok.nowLen, h.ok.safe.set i hs, h.ok.now, h.ok.loose⟩, h.foot, h.head.row_far (Blk.ne_ h.head hB (by decide)) _, ?_, ?_, ?_, h.apart⟩
  · have := h.safe.put (i := i) hi (ys := s.map bv) (by simpa using hs) hB
    rw [flat_set h.ok.safe i (by rw [h.ok.safeLen]; exact hi) s hs] at this
    exact this
  · refine h.now.kept (fun k hk => setRow_far (fun e => ?_) _) h.now.foot
    exact h.apart (by rw [hk, e]; rfl)
  · exact h.loose.kept (fun k hk => setRow_far (own_ne hB h.loose (by decide) k hk) _) h.loose.foot
/-- A sector as it is read is written anew. -/
theorem DiskAt.putNow {w : World} {F : Nat → Prop} {p N : Nat} {D : DiskM} {vs vl : Value} {gn capn : Nat} (h : DiskAt w F p N D vs (.slice (some ⟨gn, 0, none⟩) N capn) vl) {curn : Array Value} (hB : Blk w gn 113 curn)
    {i : Nat} (hi : i < N) {s : List UInt8} (hs : s.length = 128) :
    DiskAt (w.setRow gn (curn.toList.take (i * 128) ++ s.map bv ++ curn.toList.drop (i * 128 + (s.map bv).length)).toArray) F p N { D with now := D.now.set i s } vs (.slice (some ⟨gn, 0, none⟩) N capn) vl := by
  refine ⟨⟨h.ok.pos, h.ok.most, h.ok.safeLen, by simpa using h.ok.nowLen, h.ok.safe, h.ok.now.set i hs, h.ok.loose⟩, h.foot, h.head.row_far (Blk.ne_ h.head hB (by decide)) _, ?_, ?_, ?_, h.apart⟩
  · refine h.safe.kept (fun k hk => setRow_far (fun e => ?_) _) h.safe.foot
    exact h.apart (by rw [hk, e]; rfl)
  · have := h.now.put (i := i) hi (ys := s.map bv) (by simpa using hs) hB
    rw [flat_set h.ok.now i (by rw [h.ok.nowLen]; exact hi) s hs] at this
    exact this
  · exact h.loose.kept (fun k hk => setRow_far (own_ne hB h.loose (by decide) k hk) _) h.loose.foot
/-- All sectors as they are read are written anew. -/
theorem DiskAt.allNow {w : World} {F : Nat → Prop} {p N : Nat} {D : DiskM} {vs vl : Value} {gn capn : Nat} (h : DiskAt w F p N D vs (.slice (some ⟨gn, 0, none⟩) N capn) vl) {curn : Array Value} (hB : Blk w gn 113 curn)
    {S : List (List UInt8)} (hS : Sectors S) (hl : S.length = N) :
    DiskAt (w.setRow gn (flat S ++ curn.toList.drop (flat S).length).toArray) F p N { D with now := S } vs (.slice (some ⟨gn, 0, none⟩) N capn) vl := by
  refine ⟨⟨h.ok.pos, h.ok.most, h.ok.safeLen, hl, h.ok.safe, hS, h.ok.loose⟩, h.foot, h.head.row_far (Blk.ne_ h.head hB (by decide)) _, ?_, ?_, ?_, h.apart⟩
  · refine h.safe.kept (fun k hk => setRow_far (fun e => ?_) _) h.safe.foot
    exact h.apart (by rw [hk, e]; rfl)
  · obtain ⟨g, cap, cur, hv, hf, hlt, hBg, hnc, hcm, hcs, hcur⟩ := h.now.form h.ok.pos
    injection hv with e1 e2 e3
    injection e1 with e1
    injection e1 with e1 _ _
    subst e1 e3
    have hcc : curn = cur := by
      unfold Blk at hB hBg
      rw [hB] at hBg
      injection hBg with hBg
      injection hBg with hBg
    subst hcc
    have hfl := flat_length hS
    have hle : N * 128 ≤ capn * 128 := Nat.mul_le_mul_right _ hnc
    have hcl : curn.toList.length = capn * 128 := by simpa using hcs
    refine ⟨⟨by rw [hfl, hl], .inr ⟨gn, capn, _, rfl, Nat.zero_le _, hB.row _, hnc, hcm, ?_, ?_⟩⟩, fun k hk => h.now.foot k hk⟩
    · simp only [List.size_toArray, List.length_append, List.length_drop]; omega
    · simp only
      rw [List.take_left']
      omega
  · exact h.loose.kept (fun k hk => setRow_far (own_ne hB h.loose (by decide) k hk) _) h.loose.foot

/-- The head is written anew. -/
theorem DiskAt.reHead {w w' : World} {F : Nat → Prop} {p N : Nat} {D D' : DiskM} {vs vn vl vl' : Value} (h : DiskAt w F p N D vs vn vl) (hk : ∀ k, k ≠ p → w'.heap[k]? = w.heap[k]?)
    (hB : Blk w' p 112 #[vs, vn, vl', .bool D'.up, .int .i64 D'.deeds, .bool D'.armed, .int .i64 D'.after, .int .u64 (D'.keep.toNat : Int)]) (hs : D'.safe = D.safe) (hn : D'.now = D.now)
    (hl : Row w F 119 129 vl' D'.loose.length (flatLoose D'.loose)) (hlo : Looses N D'.loose) : DiskAt w' F p N D' vs vn vl' := by
  refine ⟨⟨h.ok.pos, h.ok.most, by rw [hs]; exact h.ok.safeLen, by rw [hn]; exact h.ok.nowLen, by rw [hs]; exact h.ok.safe, by rw [hn]; exact h.ok.now, hlo⟩, h.foot, hB, ?_, ?_, ?_, h.apart⟩
  · rw [hs]; exact h.safe.kept (fun k hk' => hk k (own_ne h.head h.safe (by decide) k hk')) h.safe.foot
  · rw [hn]; exact h.now.kept (fun k hk' => hk k (own_ne h.head h.now (by decide) k hk')) h.now.foot
  · exact hl.kept (fun k hk' => hk k (own_ne h.head hl (by decide) k hk')) hl.foot
theorem Row.nil_ (w : World) (F : Nat → Prop) (e : TypeId) (sz : Nat) : Row w F e sz (.slice none 0 0) 0 [] := ⟨World.ownsRow_nil w 0 e sz, fun k hk => by cases hk⟩
theorem heap_set_far (w : World) (p i : Nat) (v : Value) (k : Nat) (h : k ≠ p) : (w.setCell ⟨p, i, none⟩ v).heap[k]? = w.heap[k]? := Below.heap_setCell w ⟨p, i, none⟩ v k h

theorem rows_ne {w : World} {F G : Nat → Prop} {t e : TypeId} {sz sz' n n' : Nat} {v v' : Value} {xs xs' : List Value} (h : Row w F t sz v n xs) (h' : Row w G e sz' v' n' xs') (hne : t ≠ e) : ∀ k, v.ownBlock = some k → v'.ownBlock ≠ some k := by
  intro k hk
  rcases h.own.2 with ⟨rfl, _⟩ | ⟨g, cap, cur, rfl, _, h2, _⟩
  · cases hk
  · injection hk with hk
    simp only at hk
    subst hk
    intro he
    exact own_ne (t := t) h2 h' hne g he rfl
/-- A loose write more. -/
theorem DiskAt.pushLoose {w w4 : World} {F G : Nat → Prop} {p N : Nat} {D : DiskM} {vs vn vl v' : Value} {x : Nat × List UInt8} (h : DiskAt w F p N D vs vn vl) (hg : w.grownBy w4 vl.ownBlock)
    (hown : w4.ownsRow 0 119 129 v' (D.loose.length + 1) (flatLoose (D.loose ++ [x]))) (hx : x.1 < N ∧ x.2.length = 128) (hF : ∀ k, F k → G k) (hat : v'.ownBlock = vl.ownBlock ∨ v'.ownBlock = some w.heap.size) (hnew : v'.ownBlock = some w.heap.size → G w.heap.size) :
    DiskAt (w4.setCell ⟨p, 2, none⟩ v') G p N { D with loose := D.loose ++ [x] } vs vn v' := by
  have hhead : Blk w4 p 112 #[vs, vn, vl, .bool D.up, .int .i64 D.deeds, .bool D.armed, .int .i64 D.after, .int .u64 (D.keep.toNat : Int)] := h.head.grown hg (fun e => own_ne h.head h.loose (by decide) p e.symm rfl)
  have hrow : Row w4 G 119 129 v' (D.loose.length + 1) (flatLoose (D.loose ++ [x])) := ⟨hown, fun k hk => by
    rcases hat with e | e
    · exact hF k (h.loose.foot k (by rw [← e]; exact hk))
    · rw [e] at hk; injection hk with hk; subst hk; exact hnew e⟩
  refine ⟨⟨h.ok.pos, h.ok.most, h.ok.safeLen, h.ok.nowLen, h.ok.safe, h.ok.now, fun y hy => ?_⟩, hF p h.foot, hhead.set_ 2 v', ?_, ?_, ?_, h.apart⟩
  · rcases List.mem_append.1 hy with hy | hy
    · exact h.ok.loose y hy
    · rw [List.mem_singleton.1 hy]; exact hx
  · refine h.safe.kept (fun k hk => ?_) (fun k hk => hF k (h.safe.foot k hk))
    rw [heap_set_far _ _ _ _ _ (own_ne h.head h.safe (by decide) k hk)]
    exact hg.block k (h.safe.lt k hk) (fun e => rows_ne h.safe h.loose (by decide) k hk e.symm)
  · refine h.now.kept (fun k hk => ?_) (fun k hk => hF k (h.now.foot k hk))
    rw [heap_set_far _ _ _ _ _ (own_ne h.head h.now (by decide) k hk)]
    exact hg.block k (h.now.lt k hk) (fun e => rows_ne h.now h.loose (by decide) k hk e.symm)
  · simp only [List.length_append, List.length_cons, List.length_nil]
    exact hrow.kept (fun k hk => heap_set_far _ _ _ _ _ (own_ne hhead hrow (by decide) k hk)) hrow.foot
end Go.Proofs.Ytmhgahkainmbkaa
namespace Go.Proofs.Ytmhgahkainmbkaa
open Go.RowKit
set_option linter.unusedVariables false
set_option linter.unusedSimpArgs false

section
variable {w : World} {F : Nat → Prop} {p N : Nat} {D : DiskM} {vs vn vl : Value}

theorem len_any (h : DiskAt w F p N D vs vn vl) :
    Calls Try.prog 69 #[.pointer (some ⟨p, 0, none⟩)] w fun e w' => e = .returned (.int .i64 (N : Int)) ∧ w = w' := by
  obtain ⟨c0, c1, c2, c3, c4, c5, c6, c7, fz⟩ := head_cells h.head
  obtain ⟨gn, cap, cur, rfl, _, _, _, hnc, _⟩ := h.now.form h.ok.pos
  clear h
  go_enter Try.func69, Try.ntmps69
  go_wp2
  go_ret
  exact ⟨rfl, rfl⟩

/-- Why a sector can't be reached. -/
def DiskM.mayE (D : DiskM) (N : Nat) (i : Int) : Int := if D.up = false then 40 else if 0 ≤ i ∧ i < N then 0 else 43

theorem may_any (h : DiskAt w F p N D vs vn vl) (i : Int) :
    Calls Try.prog 70 #[.pointer (some ⟨p, 0, none⟩), .int .i64 i] w fun e w' => e = .returned (.int .i64 (D.mayE N i)) ∧ w = w' := by
  obtain ⟨c0, c1, c2, c3, c4, c5, c6, c7, fz⟩ := head_cells h.head
  obtain ⟨gn, cap, cur, rfl, _, _, _, hnc, _⟩ := h.now.form h.ok.pos
  clear h
  cases hu : D.up with
  | false =>
    have hE : D.mayE N i = 40 := by unfold DiskM.mayE; rw [if_pos hu]
    rw [hu] at c3
    rw [hE]
    clear hE hu
    go_enter Try.func70, Try.ntmps70
    go_wp2
    go_ret
    exact ⟨rfl, rfl⟩
  | true =>
    rw [hu] at c3
    by_cases h0 : i < 0
    · have hE : D.mayE N i = 43 := by unfold DiskM.mayE; rw [if_neg (by simp [hu]), if_neg (by omega)]
      rw [hE]
      clear hE hu
      go_enter Try.func70, Try.ntmps70
      go_wp2
      go_ret
      exact ⟨rfl, rfl⟩
    · by_cases h1 : i < N
      · have hE : D.mayE N i = 0 := by unfold DiskM.mayE; rw [if_neg (by simp [hu]), if_pos (by omega)]
        rw [hE]
        clear hE hu
        go_enter Try.func70, Try.ntmps70
        go_wp2
        go_ret
        exact ⟨rfl, rfl⟩
      · have hE : D.mayE N i = 43 := by unfold DiskM.mayE; rw [if_neg (by simp [hu]), if_neg (by omega)]
        rw [hE]
        clear hE hu
        go_enter Try.func70, Try.ntmps70
        go_wp2
        go_ret
        exact ⟨rfl, rfl⟩

end

theorem u_sector : Try.prog.underlying 113 = some (.array 128 5) := by kernel_rfl
theorem i_sector : (Try.prog.info? 113).map (·.size) = some 128 := by kernel_rfl
theorem i_loose : (Try.prog.info? 119).map (·.size) = some 129 := by kernel_rfl

theorem load_sector_mark (x : Value) : Instr.loadAt 113 x = LoadS 113 x := rfl
theorem store_sector_mark (x v : Value) : Instr.storeAt 113 x v = StoreS 113 x v := rfl
theorem alloc_sector_mark : Instr.alloc 113 true (.tuple #[]) = AllocS 113 := rfl
theorem alloc_sector (w : World) : Sem.run Try.prog (AllocS 113) w = .ok (.pointer (some ⟨w.heap.size, 0, none⟩)) (w.alloc (.cells (zbytes 128) 113)) := by kernel_rfl

section
attribute [local go_sem ↓] load_sector_mark store_sector_mark alloc_sector_mark
attribute [local go_sem] alloc_sector
variable {w : World} {F : Nat → Prop} {p N : Nat} {D : DiskM} {vs vn vl : Value}

set_option maxRecDepth 100000 in
theorem read_any (h : DiskAt w F p N D vs vn vl) (i : Int) (hi : D.mayE N i = 0) :
    Calls Try.prog 37 #[.pointer (some ⟨p, 0, none⟩), .int .i64 i] w fun e w' => ∃ g, e = .returned (.tuple #[.slice (some ⟨g, 0, none⟩) 128 128, .int .i64 0]) ∧ w.heap.size ≤ g ∧ Blk w' g 113 ((D.now.getD i.toNat []).map bv).toArray ∧ Below w.heap.size w w' := by
  obtain ⟨c0, c1, c2, c3, c4, c5, c6, c7, fz⟩ := head_cells h.head
  obtain ⟨gn, cap, cur, rfl, _, _, hB, hnc, hcm, hcs, hcur⟩ := h.now.form h.ok.pos
  have hin : 0 ≤ i ∧ i < N := by
    unfold DiskM.mayE at hi
    split at hi
    · omega
    · split at hi
      · assumption
      · omega
  obtain ⟨j, rfl⟩ : ∃ j : Nat, i = (j : Int) := ⟨i.toNat, by omega⟩
  have hj : j < N := by omega
  have hle : j * 128 + 128 ≤ cur.size := by rw [hcs]; omega
  have hld := LoadS.same (P := Try.prog) hB u_sector rfl i_sector hle
  have hM := may_any h (j : Int)
  rw [hi] at hM
  have hval : cur.extract (j * 128) (j * 128 + 128) = ((D.now.getD j []).map bv).toArray := by
    rw [extract_of_take hcur (by omega), flat_at h.ok.now j (by rw [h.ok.nowLen]; exact hj)]
    simp [List.getD, List.getElem?_eq_getElem (show j < D.now.length by rw [h.ok.nowLen]; exact hj)]
  have hlen : ((D.now.getD j []).map bv).toArray.size = 128 := by
    have hjn : j < D.now.length := by rw [h.ok.nowLen]; exact hj
    simp [List.getD, List.getElem?_eq_getElem hjn]
    exact h.ok.now _ (List.getElem_mem hjn)
  have hst := fun W : World => StoreS.new (P := Try.prog) (ty := 113) (t := 113) (c := zbytes 128) (x := ((D.now.getD j []).map bv).toArray) (by rw [hlen]; exact i_sector) (by rw [hlen, zbytes_size]) (fun v hv => bvs_one (D.now.getD j []) v (by simpa using hv)) W
  rw [hval] at hld
  generalize hx : ((D.now.getD j []).map bv).toArray = x at *
  have HX := Lib.hid hx
  have HM := Lib.hid hM
  clear h hin hi hM hx hval hlen hcur hcs hB
  go_enter Try.func37, Try.ntmps37
  go_wp2_with fail
  refine HM.out.mono ?_
  rintro e w' ⟨rfl, rfl⟩
  go_wp2_with fail
  go_ret2
  exact ⟨_, rfl, Nat.le_refl _, by rw [Int.toNat_natCast, HX.out]; exact Blk.new _ _ _, (Below.refl _ _).alloc (Nat.le_refl _) _⟩

theorem readE_any (h : DiskAt w F p N D vs vn vl) (i : Int) (hi : D.mayE N i ≠ 0) :
    Calls Try.prog 37 #[.pointer (some ⟨p, 0, none⟩), .int .i64 i] w fun e w' => e = .returned (.tuple #[.slice none 0 0, .int .i64 (D.mayE N i)]) ∧ w = w' := by
  have hM := may_any h i
  generalize D.mayE N i = E at *
  have HM := Lib.hid hM
  have hne : (E != 0) = true := by simpa using hi
  clear h hM
  go_enter Try.func37, Try.ntmps37
  go_wp2_with fail
  refine HM.out.mono ?_
  rintro e w' ⟨rfl, rfl⟩
  go_wp2_with fail
  go_ret2
  exact ⟨rfl, rfl⟩
end

/-! ### Power -/
/-- Does a loss of power keep the i-th loose write? -/
def keeps (k : UInt64) (i : Nat) : Bool := k.toNat.testBit (i % 64)
def crashed (k : UInt64) (l : List (Nat × List UInt8)) (S : List (List UInt8)) : List (List UInt8) :=
  l.zipIdx.foldl (fun S x => if keeps k x.2 then S.set x.1.1 x.1.2 else S) S
theorem crashed_take (k : UInt64) (l : List (Nat × List UInt8)) (S : List (List UInt8)) (n : Nat) (hn : n < l.length) :
    crashed k (l.take (n + 1)) S = if keeps k n then (crashed k (l.take n) S).set l[n].1 l[n].2 else crashed k (l.take n) S := by
  unfold crashed
  rw [List.take_succ_eq_append_getElem hn, List.zipIdx_append, List.foldl_append]
  simp [Nat.min_eq_left (Nat.le_of_lt hn)]
theorem crashed_length (k : UInt64) (l : List (Nat × List UInt8)) (S : List (List UInt8)) : (crashed k l S).length = S.length := by
  unfold crashed
  generalize l.zipIdx = m
  induction m generalizing S with
  | nil => rfl
  | cons x m ih => simp only [List.foldl_cons]; rw [ih]; split <;> simp
theorem crashed_sectors {N : Nat} (k : UInt64) {l : List (Nat × List UInt8)} {S : List (List UInt8)} (hl : Looses N l) (h : Sectors S) : Sectors (crashed k l S) := by
  unfold crashed
  have hl2 : ∀ x ∈ l.zipIdx, x.1.2.length = 128 := fun x hx => (hl x.1 (List.fst_mem_of_mem_zipIdx hx)).2
  generalize l.zipIdx = m at *
  induction m generalizing S with
  | nil => exact h
  | cons x m ih =>
    simp only [List.foldl_cons]
    refine ih ?_ (fun y hy => hl2 y (List.mem_cons_of_mem _ hy))
    split
    · exact h.set _ (hl2 x List.mem_cons_self)
    · exact h

/-- A loss of power. -/
def DiskM.crash (D : DiskM) (k : UInt64) : DiskM :=
  if D.up = false then D else { D with safe := crashed k D.loose D.safe, now := crashed k D.loose D.safe, loose := [], up := false, armed := false }

theorem DiskM.Ok.crash {D : DiskM} {N : Nat} (h : D.Ok N) (k : UInt64) : (D.crash k).Ok N := by
  unfold DiskM.crash
  split
  · exact h
  · exact ⟨h.pos, h.most, by simp only; rw [crashed_length]; exact h.safeLen, by simp only; rw [crashed_length]; exact h.safeLen, crashed_sectors k h.loose h.safe, crashed_sectors k h.loose h.safe, fun x hx => by cases hx⟩
end Go.Proofs.Ytmhgahkainmbkaa
namespace Go.Proofs.Ytmhgahkainmbkaa
open Go.RowKit
set_option linter.unusedVariables false
set_option linter.unusedSimpArgs false

theorem u_loose : Try.prog.underlying 119 = some (.struct #[{ name := "at", type := 3, offset := 0, embedded := false, tag := "", pkgPath := "bootjack/disk", byteOffset := 0 }, { name := "b", type := 113, offset := 1, embedded := false, tag := "", pkgPath := "bootjack/disk", byteOffset := 8 }]) := by kernel_rfl
theorem load_loose_mark (x : Value) : Instr.loadAt 119 x = LoadS 119 x := rfl
theorem store_loose_mark (x v : Value) : Instr.storeAt 119 x v = StoreS 119 x v := rfl
theorem alloc_loose_mark : Instr.alloc 119 true (.tuple #[]) = AllocS 119 := rfl
def zloose : Array Value := (Value.int .i64 0 :: List.replicate 128 (.int .u8 0)).toArray
theorem zloose_size : zloose.size = 129 := by simp [zloose]
theorem alloc_loose (w : World) : Sem.run Try.prog (AllocS 119) w = .ok (.pointer (some ⟨w.heap.size, 0, none⟩)) (w.alloc (.cells zloose 119)) := by kernel_rfl

theorem looseCells_one (x : Nat × List UInt8) : ∀ v ∈ looseCells x, v.oneCell' = true := by
  intro v hv
  rcases List.mem_cons.1 hv with rfl | hv
  · rfl
  · exact bvs_one _ v hv

theorem keeps_test (k : UInt64) (n : Nat) : (bits BinOp.and IntKind.u64 ((k.toNat : Int) / 2 ^ (n % 64)) 1 == 1) = keeps k n := by
  have e : ((k.toNat : Int) / 2 ^ (n % 64)) = ((k.toNat / 2 ^ (n % 64) : Nat) : Int) := by
    rw [Int.natCast_ediv]; simp
  have hlt : k.toNat / 2 ^ (n % 64) < 18446744073709551616 := Nat.lt_of_le_of_lt (Nat.div_le_self _ _) (k.toNat_lt)
  rw [e, show (1 : Int) = ((1 : Nat) : Int) from rfl, u64_and_nat _ _ hlt (by decide)]
  unfold keeps
  rw [Nat.testBit, Nat.shiftRight_eq_div_pow, Nat.and_comm 1]
  generalize k.toNat / 2 ^ (n % 64) = m
  rw [Nat.and_one_is_mod]
  have : m % 2 = 0 ∨ m % 2 = 1 := by omega
  rcases this with h | h <;> simp [h]

section
attribute [local go_sem ↓] load_sector_mark store_sector_mark alloc_sector_mark load_loose_mark store_loose_mark alloc_loose_mark copyS_mark
attribute [local go_sem] alloc_sector alloc_loose
variable {w : World} {F : Nat → Prop} {p N : Nat} {D : DiskM} {vs vn vl : Value}

set_option maxRecDepth 100000 in
theorem crash_any (h : DiskAt w F p N D vs vn vl) (k : UInt64) :
    Calls Try.prog 82 #[.pointer (some ⟨p, 0, none⟩), .int .u64 (k.toNat : Int)] w fun e w' => e = .returned (.tuple #[]) ∧ Step w w' F F ∧ ∃ vl', DiskAt w' F p N (D.crash k) vs vn vl' := by
  obtain ⟨c0, c1, c2, c3, c4, c5, c6, c7, fz⟩ := head_cells h.head
  cases hu : D.up with
  | false =>
    have hD : D.crash k = D := by unfold DiskM.crash; rw [if_pos hu]
    have HH := Lib.hid h
    rw [hu] at c3
    rw [hD]
    clear h hu hD
    go_enter Try.func82, Try.ntmps82
    go_wp2
    refine bodyPost_ret (results_none rfl _ _ _) rfl ?_
    exact ⟨rfl, Step.refl _ _, vl, HH.out⟩
  | true =>
    rw [hu] at c3
    obtain ⟨Al, cl, rfl, _⟩ := h.loose.slc
    have HH := Lib.hid h
    have HU := Lib.hid hu
    clear h hu
    go_enter Try.func82, Try.ntmps82
    go_wp2
    go_loopw [16] (fun i wr => ∃ n : Nat, n ≤ D.loose.length ∧ i = .int .i64 (n : Int) ∧ Step w wr F F ∧ DiskAt wr F p N { D with safe := crashed k (D.loose.take n) D.safe } vs vn (.slice Al D.loose.length cl)) (fun i _ => D.loose.length - (intOf i).toNat)
    case atStart => exact ⟨0, Nat.zero_le _, rfl, Step.refl _ _, HH.out⟩
    case round =>
      obtain ⟨n, hn, rfl, hS, hD⟩ := hrel
      obtain ⟨wo, rfl⟩ : ∃ wo : World, wo = wr := ⟨_, rfl⟩
      obtain ⟨d0, d1, d2, d3, d4, d5, d6, d7, dz⟩ := head_cells hD.head
      by_cases hlt : n < D.loose.length
      · obtain ⟨gl, cap, cur, hv, hFl, hgl, hB, hnc, hcm, hcs, hcur⟩ := hD.loose.form (by omega : 0 < D.loose.length)
        injection hv with hAl _ hcl
        subst hAl hcl
        obtain ⟨gs, caps, curs, rfl, hFs, hgs, hBs, hncs, hcms, hcss, hcurs⟩ := hD.safe.form hD.ok.pos
        have hx := hD.ok.loose D.loose[n] (List.getElem_mem hlt)
        have hle : n * 129 + 129 ≤ cur.size := by rw [hcs]; omega
        have hld := LoadS.same (P := Try.prog) hB u_loose rfl i_loose hle
        have hval : cur.extract (n * 129) (n * 129 + 129) = (looseCells D.loose[n]).toArray := by
          rw [extract_of_take hcur (by omega), flatLoose_at hD.ok.loose n hlt]
        rw [hval] at hld
        generalize hxx : D.loose[n] = x at *
        have hlen : (looseCells x).toArray.size = 129 := by simpa using looseCells_length hx
        have hst := fun W : World => StoreS.new (P := Try.prog) (ty := 119) (t := 119) (c := zloose) (x := (looseCells x).toArray) (by rw [hlen]; exact i_loose) (by rw [hlen, zloose_size]) (fun v hv => looseCells_one x v (by simpa using hv)) W
        have hlm : D.loose.length ≤ 9223372036854775807 := by have : cl ≤ 9223372036854775807 := by simpa [maxLen] using hcm
                                                              have h2 : D.loose.length ≤ cl := hnc
                                                              omega
        have hkt := keeps_test k n
        have hstep := crashed_take k D.loose D.safe n hlt
        rw [hxx] at hstep
        have hx0 : ∀ W : World, (W.alloc (.cells (looseCells x).toArray 119)).cell? ⟨W.heap.size, 0, none⟩ = some (.int .i64 (x.1 : Int)) := fun W => by
          rw [(Blk.new W _ _).cell]; rfl
        have hl63 := LoadS.same (P := Try.prog) (w := wo.alloc (.cells (looseCells x).toArray 119)) (g := wo.heap.size) (o := 1) (Blk.new _ _ _) u_sector rfl i_sector (by rw [hlen]; omega)
        have hv63 : (looseCells x).toArray.extract 1 (1 + 128) = (x.2.map bv).toArray := by
          apply Array.ext'
          rw [Array.toList_extract, List.extract_eq_take_drop]
          simp only [looseCells, List.drop_succ_cons, List.drop_zero]
          rw [List.take_of_length_le (by simp; omega)]
        rw [hv63] at hl63
        replace hl63 := hl63 (wo.alloc (.cells (looseCells x).toArray 119)).drew rfl
        have hxs : (x.2.map bv).toArray.size = 128 := by simpa using hx.2
        have hle2 : x.1 * 128 + (x.2.map bv).toArray.size ≤ curs.size := by rw [hcss, hxs]; omega
        have hs63 := StoreS.of_blk (P := Try.prog) (w := (wo.alloc (.cells (looseCells x).toArray 119)).drew) (ty := 113) ((hBs.alloc (.cells (looseCells x).toArray 119)).drew) (by rw [hxs]; exact i_sector) hle2 (fun v hv => bvs_one x.2 v (by simpa using hv))
        have hx1 : x.1 < N := hx.1
        have hpa := cells_alloc hD.head.lt
        have HX := Lib.hid hxx
        have HD := Lib.hid hD
        have HXO := Lib.hid hx
        have HSTEP := Lib.hid hstep
        generalize hrow : (curs.toList.take (x.1 * 128) ++ (x.2.map bv).toArray.toList ++ curs.toList.drop (x.1 * 128 + (x.2.map bv).toArray.toList.length)).toArray = row at hs63
        have hnewS : DiskAt ((wo.alloc (.cells (looseCells x).toArray 119)).drew.setRow gs row) F p N { D with safe := (crashed k (D.loose.take n) D.safe).set x.1 x.2 } (.slice (some ⟨gs, 0, none⟩) N caps) vn (.slice (some ⟨gl, 0, none⟩) D.loose.length cl) := by
          subst hrow
          exact (hD.alloc (.cells (looseCells x).toArray 119)).drew.putSafe ((hBs.alloc (.cells (looseCells x).toArray 119)).drew) hx.1 hx.2
        have HNEW := Lib.hid hnewS
        clear hD hxx hval hB hcur hcs hle hx hlen hstep hv63 hxs hle2 fz c0 c1 c2 c3 c4 c5 c6 c7 hBs hrow hnewS
        cases hk : keeps k n with
        | false =>
          rw [hk] at hkt
          go_wp2_with fail
          refine ⟨⟨n + 1, by omega, by go_num, hS.alloc _, ?_⟩, by simp [intOf]; omega⟩
          rw [HSTEP.out, hk]
          exact HD.out.alloc _
        | true =>
          rw [hk] at hkt
          go_wp2_with fail
          refine region_tail 9 (by kernel_rfl) (by kernel_rfl) ?_
          simp only [List.take_succ_cons, List.take_zero, List.drop_succ_cons, List.drop_zero]
          repeat still_step
          refine wpStill_nil ?_
          go_wp2_with fail
          refine ⟨⟨n + 1, by omega, by go_num, ((hS.alloc _).drew).setRow (.inl hFs) _, ?_⟩, by simp [intOf]; omega⟩
          rw [HSTEP.out, hk]
          exact HNEW.out
      · obtain rfl : n = D.loose.length := by omega
        rw [List.take_length] at hD
        obtain ⟨gs, caps, curs, rfl, hFs, hgs, hBs, hncs, hcms, hcss, hcurs⟩ := hD.safe.form hD.ok.pos
        obtain ⟨gn, capn, curn, rfl, hFn, hgn, hBn, hncn, hcmn, hcsn, hcurn⟩ := hD.now.form hD.ok.pos
        have hSl : (crashed k D.loose D.safe).length = N := hD.ok.safeLen
        have hSS : Sectors (crashed k D.loose D.safe) := hD.ok.safe
        have hfl := flat_length hSS
        have hcp := CopyS.of_blk (P := Try.prog) (w := wo.drew) (dT := 109) (sT := 109) (ty := 3) (elem := 113) (sz := 128) (g := gn) (o := 0) (dLen := N) (dCap := capn) (sLen := N) (sCap := caps) (a := ⟨gs, 0, none⟩) (cs := flat (crashed k D.loose D.safe))
          Try.underlying109 i_sector hBn.drew (by rw [hfl, hSl, Nat.min_self]) (fun j v hj => by
            rw [addr_of_add, Nat.zero_add, hBs.drew.cell]
            have hj2 : (curs.toList.take (N * 128))[j]? = some v := by rw [hcurs]; exact hj
            rw [List.getElem?_take] at hj2
            split at hj2
            · simpa using hj2
            · cases hj2) (by rw [hfl, hSl, hcsn]; omega) (fun v hv => by
            obtain ⟨s, _, hs⟩ := List.mem_flatMap.1 hv
            exact bvs_one s v hs)
        generalize hrow : (curn.toList.take 0 ++ flat (crashed k D.loose D.safe) ++ curn.toList.drop (0 + (flat (crashed k D.loose D.safe)).length)).toArray = row at hcp
        have hnewS : DiskAt (wo.drew.setRow gn row) F p N { D with safe := crashed k D.loose D.safe, now := crashed k D.loose D.safe } (.slice (some ⟨gs, 0, none⟩) N caps) (.slice (some ⟨gn, 0, none⟩) N capn) (.slice Al D.loose.length cl) := by
          subst hrow
          have := hD.drew.allNow hBn.drew hSS hSl
          simpa using this
        have hS3 : Step w (wo.drew.setRow gn row) F F := hS.drew.setRow (.inl hFn) _
        obtain ⟨e0, e1, e2, e3, e4, e5, e6, e7, ez⟩ := head_cells hnewS.head
        have HNEW := Lib.hid hnewS
        have HS3 := Lib.hid hS3
        clear hD hS hSl hSS hfl hBs hBn hcurs hcurn hcss hcsn hrow hnewS hS3 c0 c1 c2 c3 c4 c5 c6 c7 fz
        go_wp2_with fail
        refine region_tail 8 (by kernel_rfl) (by kernel_rfl) ?_
        simp only [List.take_succ_cons, List.take_zero, List.drop_succ_cons, List.drop_zero]
        repeat still_step
        refine wpStill_nil ?_
        generalize wo.drew.setRow gn row = W3 at *
        go_wp2_with fail
        go_end0
        refine ⟨rfl, ((HS3.out.setCell (p := ⟨p, 2, none⟩) (.inl HNEW.out.foot) _).setCell (p := ⟨p, 3, none⟩) (.inl HNEW.out.foot) _).setCell (p := ⟨p, 5, none⟩) (.inl HNEW.out.foot) _, .slice none 0 0, ?_⟩
        have hDc : D.crash k = { D with safe := crashed k D.loose D.safe, now := crashed k D.loose D.safe, loose := [], up := false, armed := false } := by
          unfold DiskM.crash; rw [if_neg (by simp [HU.out])]
        rw [hDc]
        refine HNEW.out.reHead (fun j hj => ?_) ?_ rfl rfl (Row.nil_ _ _ _ _) (fun x hx => by cases hx)
        · rw [heap_set_far _ _ _ _ _ hj, heap_set_far _ _ _ _ _ hj, heap_set_far _ _ _ _ _ hj]
        · exact ((HNEW.out.head.set_ 2 _).set_ 3 _).set_ 5 _
end
end Go.Proofs.Ytmhgahkainmbkaa
namespace Go.Proofs.Ytmhgahkainmbkaa
open Go.RowKit
set_option linter.unusedVariables false
set_option linter.unusedSimpArgs false

def Disk (w : World) (F : Nat → Prop) (p N : Nat) (D : DiskM) : Prop := (∀ k, F k → k < w.heap.size) ∧ ∃ vs vn vl, DiskAt w F p N D vs vn vl
theorem Disk.ok {w : World} {F : Nat → Prop} {p N : Nat} {D : DiskM} (h : Disk w F p N D) : D.Ok N := by obtain ⟨_, _, _, _, h⟩ := h; exact h.ok
theorem Disk.step {w w' : World} {F G K : Nat → Prop} {p N : Nat} {D : DiskM} (h : Disk w F p N D) (s : Step w w' G K) (hd : ∀ k, F k → ¬ G k) : Disk w' F p N D := by
  obtain ⟨hbd, vs, vn, vl, h⟩ := h; exact ⟨fun k hk => Nat.lt_of_lt_of_le (hbd k hk) s.size, vs, vn, vl, h.step s hd⟩
theorem Disk.free {w w' : World} {F : Nat → Prop} {p N : Nat} {D : DiskM} (h : Disk w F p N D) (hb : Below w.heap.size w w') : Disk w' F p N D := by
  obtain ⟨hbd, vs, vn, vl, h⟩ := h; exact ⟨fun k hk => Nat.lt_of_lt_of_le (hbd k hk) hb.size, vs, vn, vl, h.free hb⟩
theorem Disk.of {w w' : World} {F : Nat → Prop} {p N : Nat} {D : DiskM} {vs vn vl : Value} (hbd : Hid (∀ k, F k → k < w.heap.size)) (hs : w.heap.size ≤ w'.heap.size) (h : DiskAt w' F p N D vs vn vl) : Disk w' F p N D :=
  ⟨fun k hk => Nat.lt_of_lt_of_le (hbd.out k hk) hs, vs, vn, vl, h⟩

/-- A deed, unless power fails in its place. -/
def DiskM.fails (D : DiskM) : Bool := D.armed && D.after == 0
def DiskM.deed (D : DiskM) : DiskM := { D with after := wrap64 (D.after - 1), deeds := wrap64 (D.deeds + 1) }
def DiskM.afterFails (D : DiskM) : DiskM := if D.fails then D.crash D.keep else D.deed

section
variable {w : World} {F : Nat → Prop} {p N : Nat} {D : DiskM}

set_option maxRecDepth 100000 in
theorem fails_any (h : Disk w F p N D) :
    Calls Try.prog 76 #[.pointer (some ⟨p, 0, none⟩)] w fun e w' => e = .returned (.bool D.fails) ∧ Step w w' F F ∧ Disk w' F p N D.afterFails := by
  obtain ⟨hbd0, vs, vn, vl, h⟩ := h
  have HBD := Lib.hid hbd0
  clear hbd0
  obtain ⟨c0, c1, c2, c3, c4, c5, c6, c7, fz⟩ := head_cells h.head
  have hC := crash_any h D.keep
  have HC := Lib.hid hC
  have HH := Lib.hid h
  clear hC h
  have key : (D.fails = true ∧ D.armed = true ∧ (D.after == 0) = true) ∨ (D.fails = false ∧ (D.armed = false ∨ (D.armed = true ∧ (D.after == 0) = false))) := by
    unfold DiskM.fails
    cases D.armed <;> cases (D.after == 0) <;> simp
  rcases key with ⟨hf, ha, h0⟩ | ⟨hf, hc⟩
  · have hA : D.afterFails = D.crash D.keep := by unfold DiskM.afterFails; rw [if_pos hf]
    rw [ha] at c5
    rw [hf, hA]
    clear hf ha hA
    go_enter Try.func76, Try.ntmps76
    go_wp2_with fail
    refine HC.out.mono ?_
    rintro e w' ⟨rfl, hS, vl', hD⟩
    clear c0 c1 c2 c3 c4 c5 c6 c7 fz h0
    go_wp2_with fail
    go_ret
    exact ⟨rfl, hS, .of HBD hS.size hD⟩
  · have hA : D.afterFails = D.deed := by unfold DiskM.afterFails; rw [if_neg (by simp [hf])]
    rw [hf, hA]
    have fin : ∀ w', w' = (w.setCell ⟨p, 6, none⟩ (.int .i64 (wrap64 (D.after - 1)))).setCell ⟨p, 4, none⟩ (.int .i64 (wrap64 (D.deeds + 1))) → Step w w' F F ∧ Disk w' F p N D.deed := by
      rintro w' rfl
      refine ⟨((Step.refl w F).setCell (p := ⟨p, 6, none⟩) (.inl HH.out.foot) _).setCell (p := ⟨p, 4, none⟩) (.inl HH.out.foot) _, .of HBD (by simp [World.setCell]) (vs := vs) (vn := vn) (vl := vl) ?_⟩
      refine HH.out.reHead (fun j hj => ?_) ?_ rfl rfl HH.out.loose HH.out.ok.loose
      · rw [heap_set_far _ _ _ _ _ hj, heap_set_far _ _ _ _ _ hj]
      · exact (HH.out.head.set_ 6 _).set_ 4 _
    have HF := Lib.hid fin
    clear hf hA fin
    rcases hc with ha | ⟨ha, h0⟩
    · rw [ha] at c5
      clear ha
      go_enter Try.func76, Try.ntmps76
      go_wp2_with fail
      go_ret
      exact ⟨rfl, HF.out _ rfl⟩
    · rw [ha] at c5
      clear ha
      go_enter Try.func76, Try.ntmps76
      go_wp2_with fail
      go_ret
      exact ⟨rfl, HF.out _ rfl⟩

/-- Power is bound to fail. -/
def DiskM.arm (D : DiskM) (after : Int) (keep : UInt64) : DiskM := if D.up then { D with armed := decide (0 ≤ after), after := after, keep := keep } else D

def DiskM.start (D : DiskM) : DiskM := { D with up := true }
def DiskM.startE (D : DiskM) : Int := if D.up then 42 else 0

end
end Go.Proofs.Ytmhgahkainmbkaa
namespace Go.Proofs.Ytmhgahkainmbkaa
open Go.RowKit
set_option linter.unusedVariables false
set_option linter.unusedSimpArgs false

def flushed (now : List (List UInt8)) (l : List (Nat × List UInt8)) (S : List (List UInt8)) : List (List UInt8) := l.foldl (fun S x => S.set x.1 (now.getD x.1 [])) S
theorem flushed_take (now : List (List UInt8)) (l : List (Nat × List UInt8)) (S : List (List UInt8)) (n : Nat) (hn : n < l.length) :
    flushed now (l.take (n + 1)) S = (flushed now (l.take n) S).set l[n].1 (now.getD l[n].1 []) := by
  unfold flushed
  rw [List.take_succ_eq_append_getElem hn, List.foldl_append]
  rfl

def DiskM.flush (D : DiskM) : DiskM :=
  if D.up = false then D else if D.fails then D.crash D.keep else { D.deed with safe := flushed D.now D.loose D.safe, loose := [] }
def DiskM.flushE (D : DiskM) : Int := if D.up = false then 40 else if D.fails then 41 else 0

section
attribute [local go_sem ↓] load_sector_mark store_sector_mark alloc_sector_mark load_loose_mark store_loose_mark alloc_loose_mark copyS_mark
attribute [local go_sem] alloc_sector alloc_loose
variable {w : World} {F : Nat → Prop} {p N : Nat} {D : DiskM}

/-- The loop of Flush, behind the deed. -/
theorem DiskM.deed_now (D : DiskM) : D.deed.now = D.now ∧ D.deed.loose = D.loose ∧ D.deed.safe = D.safe ∧ D.deed.up = D.up ∧ D.deed.armed = D.armed ∧ D.deed.keep = D.keep := ⟨rfl, rfl, rfl, rfl, rfl, rfl⟩

set_option maxRecDepth 100000 in
set_option maxHeartbeats 1000000 in
theorem flush_any (h : Disk w F p N D) :
    Calls Try.prog 68 #[.pointer (some ⟨p, 0, none⟩)] w fun e w' => e = .returned (.int .i64 D.flushE) ∧ Step w w' F F ∧ Disk w' F p N D.flush := by
  have hF := fails_any h
  have HH := Lib.hid h
  obtain ⟨hbd0, vs, vn, vl, h⟩ := h
  have HBD := Lib.hid hbd0
  clear hbd0
  obtain ⟨c0, c1, c2, c3, c4, c5, c6, c7, fz⟩ := head_cells h.head
  cases hu : D.up with
  | false =>
    have hA : D.flush = D := by unfold DiskM.flush; rw [if_pos hu]
    have hE : D.flushE = 40 := by unfold DiskM.flushE; rw [if_pos hu]
    rw [hA, hE]
    rw [hu] at c3
    clear hu hA hE hF h
    go_enter Try.func68, Try.ntmps68
    go_wp2_with fail
    go_ret
    exact ⟨rfl, Step.refl _ _, HH.out⟩
  | true =>
    rw [hu] at c3
    cases hf : D.fails with
    | true =>
      have hA : D.flush = D.crash D.keep := by unfold DiskM.flush; rw [if_neg (by simp [hu]), if_pos hf]
      have hE : D.flushE = 41 := by unfold DiskM.flushE; rw [if_neg (by simp [hu]), if_pos hf]
      have hAF : D.afterFails = D.crash D.keep := by unfold DiskM.afterFails; rw [if_pos hf]
      rw [hA, hE]
      rw [hf, hAF] at hF
      have HF := Lib.hid hF
      clear hu hA hE hF h hf hAF
      go_enter Try.func68, Try.ntmps68
      go_wp2_with fail
      refine HF.out.mono ?_
      rintro e w' ⟨rfl, hS, hD⟩
      clear c0 c1 c2 c3 c4 c5 c6 c7 fz
      go_wp2_with fail
      go_ret
      exact ⟨rfl, hS, hD⟩
    | false =>
      obtain ⟨D1, hD1e⟩ : ∃ D1, D1 = D.deed := ⟨_, rfl⟩
      have hA : D.flush = { D1 with safe := flushed D1.now D1.loose D1.safe, loose := [] } := by subst hD1e; unfold DiskM.flush; rw [if_neg (by simp [hu]), if_neg (by simp [hf])]; rfl
      have hE : D.flushE = 0 := by unfold DiskM.flushE; rw [if_neg (by simp [hu]), if_neg (by simp [hf])]
      have hAF : D.afterFails = D.deed := by unfold DiskM.afterFails; rw [if_neg (by simp [hf])]
      rw [hA, hE]
      rw [hf, hAF, ← hD1e] at hF
      have HF := Lib.hid hF
      clear hu hA hE hF h hf hAF HH hD1e
      go_enter Try.func68, Try.ntmps68
      go_wp2_with fail
      refine HF.out.mono ?_
      rintro e w1 ⟨rfl, hS1, _, vs1, vn1, vl1, hD1⟩
      clear c0 c1 c2 c3 c4 c5 c6 c7 fz
      obtain ⟨c0, c1, c2, c3, c4, c5, c6, c7, fz⟩ := head_cells hD1.head
      obtain ⟨Al, cl, rfl, hsl⟩ := hD1.loose.slc
      have HD1 := Lib.hid hD1
      have hll : D1.loose.length ≤ 9223372036854775807 := by have h1 := hsl.le; have h2 := hsl.cmax; simp only [maxLen] at h2; omega
      clear hsl hD1
      go_wp2_with fail
      go_loopw [17] (fun i wr => ∃ n : Nat, n ≤ D1.loose.length ∧ i = .int .i64 (n : Int) ∧ Step w wr F F ∧ DiskAt wr F p N { D1 with safe := flushed D1.now (D1.loose.take n) D1.safe } vs1 vn1 (.slice Al D1.loose.length cl)) (fun i _ => D1.loose.length - (intOf i).toNat)
      case atStart => exact ⟨0, Nat.zero_le _, rfl, hS1, HD1.out⟩
      case round =>
        obtain ⟨n, hn, rfl, hS, hD⟩ := hrel
        obtain ⟨wo, rfl⟩ : ∃ wo : World, wo = wr := ⟨_, rfl⟩
        obtain ⟨d0, d1, d2, d3, d4, d5, d6, d7, dz⟩ := head_cells hD.head
        clear c0 c1 c2 c3 c4 c5 c6 c7 fz
        by_cases hlt : n < D1.loose.length
        · obtain ⟨gl, cap, cur, hv, hFl, hgl, hB, hnc, hcm, hcs, hcur⟩ := hD.loose.form (by show 0 < D1.loose.length; omega)
          injection hv with hAl _ hcl
          subst hAl hcl
          obtain ⟨gs, caps, curs, rfl, hFs, hgs, hBs, hncs, hcms, hcss, hcurs⟩ := hD.safe.form hD.ok.pos
          obtain ⟨gn, capn, curn, rfl, hFn, hgn, hBn, hncn, hcmn, hcsn, hcurn⟩ := hD.now.form hD.ok.pos
          have hx := hD.ok.loose D1.loose[n] (List.getElem_mem hlt)
          have hle : n * 129 + 129 ≤ cur.size := by rw [hcs]; omega
          have hld := LoadS.same (P := Try.prog) hB u_loose rfl i_loose hle
          have hval : cur.extract (n * 129) (n * 129 + 129) = (looseCells D1.loose[n]).toArray := by
            rw [extract_of_take hcur (by show n * 129 + 129 ≤ D1.loose.length * 129; omega)]
            exact congrArg List.toArray (flatLoose_at hD.ok.loose n hlt)
          rw [hval] at hld
          have hstep := flushed_take D1.now D1.loose D1.safe n hlt
          generalize hxx : D1.loose[n] = x at *
          have hlen : (looseCells x).toArray.size = 129 := by simpa using looseCells_length hx
          have hst := fun W : World => StoreS.new (P := Try.prog) (ty := 119) (t := 119) (c := zloose) (x := (looseCells x).toArray) (by rw [hlen]; exact i_loose) (by rw [hlen, zloose_size]) (fun v hv => looseCells_one x v (by simpa using hv)) W
          have hx0 : ∀ W : World, (W.alloc (.cells (looseCells x).toArray 119)).cell? ⟨W.heap.size, 0, none⟩ = some (.int .i64 (x.1 : Int)) := fun W => by
            rw [(Blk.new W _ _).cell]; rfl
          have hxn : x.1 < D1.now.length := by have := hD.ok.nowLen; rw [show ({ D1 with safe := flushed D1.now (D1.loose.take n) D1.safe } : DiskM).now = D1.now from rfl] at this; omega
          have hslen : (D1.now.getD x.1 []).length = 128 := by
            simp only [List.getD, List.getElem?_eq_getElem hxn, Option.getD_some]
            exact hD.ok.now _ (List.getElem_mem hxn)
          have hln := LoadS.same (P := Try.prog) (w := wo.alloc (.cells (looseCells x).toArray 119)) (g := gn) (o := x.1 * 128) (hBn.alloc _) u_sector rfl i_sector (by rw [hcsn]; omega) (wo.alloc (.cells (looseCells x).toArray 119)).drew rfl
          have hvn : curn.extract (x.1 * 128) (x.1 * 128 + 128) = ((D1.now.getD x.1 []).map bv).toArray := by
            rw [extract_of_take hcurn (by omega)]
            refine congrArg List.toArray ?_
            have := flat_at hD.ok.now x.1 hxn
            simp only [List.getD, List.getElem?_eq_getElem hxn, Option.getD_some]
            exact this
          rw [hvn] at hln
          generalize hss : D1.now.getD x.1 [] = s at *
          have hxs : (s.map bv).toArray.size = 128 := by simpa using hslen
          have hle2 : x.1 * 128 + (s.map bv).toArray.size ≤ curs.size := by rw [hcss, hxs]; omega
          have hs63 := StoreS.of_blk (P := Try.prog) (w := (wo.alloc (.cells (looseCells x).toArray 119)).drew) (ty := 113) ((hBs.alloc (.cells (looseCells x).toArray 119)).drew) (by rw [hxs]; exact i_sector) hle2 (fun v hv => bvs_one s v (by simpa using hv))
          have hx1 : x.1 < N := hx.1
          have hpa := cells_alloc hD.head.lt
          generalize hrow : (curs.toList.take (x.1 * 128) ++ (s.map bv).toArray.toList ++ curs.toList.drop (x.1 * 128 + (s.map bv).toArray.toList.length)).toArray = row at hs63
          have hnewS : DiskAt ((wo.alloc (.cells (looseCells x).toArray 119)).drew.setRow gs row) F p N { D1 with safe := (flushed D1.now (D1.loose.take n) D1.safe).set x.1 s } (.slice (some ⟨gs, 0, none⟩) N caps) (.slice (some ⟨gn, 0, none⟩) N capn) (.slice (some ⟨gl, 0, none⟩) D1.loose.length cl) := by
            subst hrow
            exact (hD.alloc (.cells (looseCells x).toArray 119)).drew.putSafe ((hBs.alloc (.cells (looseCells x).toArray 119)).drew) hx.1 hslen
          have HNEW := Lib.hid hnewS
          have HSTEP := Lib.hid hstep
          clear hD hxx hval hB hcur hcs hle hx hlen hstep hxs hle2 hBs hrow hnewS hvn hss hslen hBn HD1
          go_wp2_with fail
          refine region_tail 15 (by kernel_rfl) (by kernel_rfl) ?_
          simp only [List.take_succ_cons, List.take_zero, List.drop_succ_cons, List.drop_zero]
          repeat still_step
          refine wpStill_nil ?_
          go_wp2_with fail
          refine ⟨⟨n + 1, by omega, by go_num, ((hS.alloc _).drew).setRow (.inl hFs) _, ?_⟩, by simp [intOf]; omega⟩
          rw [HSTEP.out]
          exact HNEW.out
        · obtain rfl : n = D1.loose.length := by omega
          rw [List.take_length] at hD
          have HD := Lib.hid hD
          clear hD HD1
          go_wp2_with fail
          go_ret
          refine ⟨rfl, hS.setCell (p := ⟨p, 2, none⟩) (.inl HD.out.foot) _, .of HBD (by have := hS.size; simpa [World.setCell] using this) (vs := vs1) (vn := vn1) (vl := .slice none 0 0) ?_⟩
          refine HD.out.reHead (fun j hj => ?_) ?_ rfl rfl (Row.nil_ _ _ _ _) (fun x hx => by cases hx)
          · rw [heap_set_far _ _ _ _ _ hj]
          · exact HD.out.head.set_ 2 _
end
end Go.Proofs.Ytmhgahkainmbkaa
namespace Go.Proofs.Ytmhgahkainmbkaa
open Go.RowKit
set_option linter.unusedVariables false
set_option linter.unusedSimpArgs false

def DiskM.writeE (D : DiskM) (N : Nat) (i : Int) (l : List UInt8) : Int :=
  if D.mayE N i ≠ 0 then D.mayE N i else if l.length ≠ 128 then 44 else if D.fails then 41 else 0
def DiskM.write (D : DiskM) (N : Nat) (i : Int) (l : List UInt8) : DiskM :=
  if D.mayE N i ≠ 0 then D else if l.length ≠ 128 then D else if D.fails then D.crash D.keep else { D.deed with now := D.now.set i.toNat l, loose := D.loose ++ [(i.toNat, l)] }

theorem build_loose_mark (parts : Array (Nat × Value)) : Instr.build 119 parts = BuildS 119 parts := rfl
theorem list_loose_mark (n : Nat) (parts : Array (Nat × Value)) : Instr.buildSlice 110 n parts = ListS 110 n parts := rfl
def zlooseAt (i : Int) : Array Value := (Value.int .i64 i :: List.replicate 128 (.int .u8 0)).toArray
theorem build_loose (i : Int) (w : World) : Sem.run Try.prog (BuildS 119 #[(0, .int .i64 i)]) w = .ok (.agg (zlooseAt i)) w := by kernel_rfl
theorem loose_info : (Try.prog.info? 119).map (fun i => (i.zero.map (·.cells.size), i.size, i.bytes)) = some (some 129, 129, 136) := by kernel_rfl
theorem list_loose {cs : Array Value} (hc : cs.size = 129) (w : World) : Sem.run Try.prog (ListS 110 1 #[(0, .agg cs)]) w = .ok (.slice (some ⟨w.heap.size, 0, none⟩) 1 1) (w.alloc (.cells cs 119)) := by
  cases hi : Try.prog.info? 119 with
  | none => have := loose_info; rw [hi] at this; cases this
  | some i =>
    have h := loose_info
    rw [hi] at h
    simp only [Option.map_some, Option.some.injEq, Prod.mk.injEq] at h
    cases hz : i.zero with
    | none => rw [hz] at h; simp at h
    | some z =>
      rw [hz] at h
      simp only [Option.map_some, Option.some.injEq] at h
      exact ListS.one Try.underlying110 hi hz h.2.1 h.1 (by decide) (by decide) hc w

/-- append of one loose write. -/
theorem append_loose (w : World) (v : Value) (l : List (Nat × List UInt8)) {N : Nat} (hl : Looses N l) (hown : w.ownsRow 0 119 129 v l.length (flatLoose l)) (x : Nat × List UInt8) (hx : x.1 < N ∧ x.2.length = 128)
    {B : Nat} {A : Option Addr} (hr : Slc w B 129 A 1 1 (looseCells x)) (hb : l.length ≤ 1000000) :
    ∃ A' c' w', (AppendS #[110, 110] 110 #[v, .slice A 1 1]).run Try.prog w = .ok (.slice A' (l.length + 1) c') w' ∧ w'.ownsRow 0 119 129 (.slice A' (l.length + 1) c') (l.length + 1) (flatLoose (l ++ [x])) ∧ w.grownBy w' v.ownBlock ∧
      ((Value.slice A' (l.length + 1) c').ownBlock = v.ownBlock ∨ (Value.slice A' (l.length + 1) c').ownBlock = some w.heap.size) := by
  cases hi : Try.prog.info? 119 with
  | none => have := loose_info; rw [hi] at this; cases this
  | some i =>
    have h := loose_info
    rw [hi] at h
    simp only [Option.map_some, Option.some.injEq, Prod.mk.injEq] at h
    cases hz : i.zero with
    | none => rw [hz] at h; simp at h
    | some z =>
      rw [hz] at h
      simp only [Option.map_some, Option.some.injEq] at h
      have := append_slc (P := Try.prog) w 0 110 110 119 i z 129 136 Try.underlying110 hi hz h.2.1 h.2.2 h.1 (by decide) v l.length _ hown B A 1 1 _ hr (looseCells_one x) (by unfold maxLen; omega) (by omega) (Nat.zero_le _)
      rw [flatLoose_append, show flatLoose [x] = looseCells x by simp [flatLoose]]
      exact this

section
attribute [local go_sem ↓] load_sector_mark store_sector_mark alloc_sector_mark load_loose_mark store_loose_mark alloc_loose_mark copyS_mark appendS_mark build_loose_mark list_loose_mark
attribute [local go_sem] alloc_sector alloc_loose build_loose
variable {w : World} {F : Nat → Prop} {p N : Nat} {D : DiskM}

set_option maxRecDepth 100000 in
set_option maxHeartbeats 1000000 in
theorem write_any (h : Disk w F p N D) (i : Int) {A : Option Addr} {n c B : Nat} {l : List UInt8} (hS : Slc w B 1 A n c (l.map bv)) (hsep : ∀ a, A = some a → ¬ F a.block) (hroom : D.loose.length ≤ 1000000) :
    Calls Try.prog 47 #[.pointer (some ⟨p, 0, none⟩), .int .i64 i, .slice A n c] w fun e w' => e = .returned (.int .i64 (D.writeE N i l)) ∧ ∃ F', Step w w' F F' ∧ Disk w' F' p N (D.write N i l) := by
  have hF := fails_any h
  have HBD := Lib.hid h.1
  have HH := Lib.hid h
  have hM : Calls Try.prog 70 #[.pointer (some ⟨p, 0, none⟩), .int .i64 i] w fun e w' => e = .returned (.int .i64 (D.mayE N i)) ∧ w = w' := by
    obtain ⟨_, vs, vn, vl, h⟩ := h; exact may_any h i
  have hlen : l.length = n := by have := hS.len; simpa using this
  by_cases hme : D.mayE N i = 0
  · have hin : 0 ≤ i ∧ i < N := by
      unfold DiskM.mayE at hme
      split at hme
      · omega
      · split at hme
        · assumption
        · omega
    obtain ⟨j, rfl⟩ : ∃ j : Nat, i = (j : Int) := ⟨i.toNat, by omega⟩
    rw [hme] at hM
    have HM := Lib.hid hM
    have HSS := Lib.hid hS
    have HSEP := Lib.hid hsep
    clear hM
    by_cases h128 : l.length = 128
    · have hn : n = 128 := by omega
      subst hn
      cases hf : D.fails with
      | true =>
        have hE : D.writeE N (j : Int) l = 41 := by unfold DiskM.writeE; rw [if_neg (by simp [hme]), if_neg (by simp [h128]), if_pos hf]
        have hW : D.write N (j : Int) l = D.crash D.keep := by unfold DiskM.write; rw [if_neg (by simp [hme]), if_neg (by simp [h128]), if_pos hf]
        have hAF : D.afterFails = D.crash D.keep := by unfold DiskM.afterFails; rw [if_pos hf]
        rw [hE, hW]
        rw [hf, hAF] at hF
        have HF := Lib.hid hF
        clear hE hW hAF hF hf h hlen h128 hme hin hS hsep
        go_enter Try.func47, Try.ntmps47
        go_wp2_with fail
        refine HM.out.mono ?_
        rintro e w' ⟨rfl, rfl⟩
        go_wp2_with fail
        refine HF.out.mono ?_
        rintro e w' ⟨rfl, hSt, hD⟩
        go_wp2_with fail
        go_ret
        exact ⟨rfl, F, hSt, hD⟩
      | false =>
        obtain ⟨D1, hD1e⟩ : ∃ D1, D1 = D.deed := ⟨_, rfl⟩
        have hE : D.writeE N (j : Int) l = 0 := by unfold DiskM.writeE; rw [if_neg (by simp [hme]), if_neg (by simp [h128]), if_neg (by simp [hf])]
        have hW : D.write N (j : Int) l = { D1 with now := D1.now.set j l, loose := D1.loose ++ [(j, l)] } := by
          subst hD1e; unfold DiskM.write; rw [if_neg (by simp [hme]), if_neg (by simp [h128]), if_neg (by simp [hf])]; rfl
        have hAF : D.afterFails = D1 := by subst hD1e; unfold DiskM.afterFails; rw [if_neg (by simp [hf])]
        rw [hE, hW]
        rw [hf, hAF] at hF
        have hroom1 : D1.loose.length ≤ 1000000 := by subst hD1e; exact hroom
        have HF := Lib.hid hF
        have HLEN := Lib.hid h128
        clear hE hW hAF hF hf h hlen h128 hme hS hsep hD1e hroom
        have hj : j < N := by omega
        clear hin
        go_enter Try.func47, Try.ntmps47
        go_wp2_with fail
        refine HM.out.mono ?_
        rintro e w' ⟨rfl, rfl⟩
        go_wp2_with fail
        refine HF.out.mono ?_
        rintro e w1 ⟨rfl, hSt, _, vs, vn, vl, hD⟩
        have hS1 := HSS.out.apart hSt HSEP.out
        -- the loose write, in a variable of its own
        have hz : (zlooseAt (j : Int)).size = 129 := by simp [zlooseAt]
        have hst := fun W : World => StoreS.new (P := Try.prog) (ty := 119) (t := 119) (c := zloose) (x := zlooseAt (j : Int)) (by rw [hz]; exact i_loose) (by rw [hz, zloose_size]) (fun v hv => by
          simp only [zlooseAt, List.mem_cons, List.mem_replicate] at hv
          rcases hv with rfl | ⟨_, rfl⟩ <;> rfl) W
        have hj64 : (j : Int) ≤ 1024 := by have := hD.ok.most; omega
        obtain ⟨b, off, rfl, hbB, hcell⟩ := hS1.at_ (by omega)
        have hbl : b < w1.heap.size := World.block_lt_of_cell? w1 _ (hcell 0 (bv (l[0]'(by have := HLEN.out; omega))) (by simp [List.getElem?_map, List.getElem?_eq_getElem (show 0 < l.length by have := HLEN.out; omega)]))
        have hcp := CopyS.of_blk (P := Try.prog) (w := w1.alloc (.cells (zlooseAt (j : Int)) 119)) (dT := 39) (sT := 39) (ty := 3) (elem := 5) (sz := 1) (g := w1.heap.size) (o := 1) (dLen := 128) (dCap := 128) (sLen := 128) (sCap := c) (a := ⟨b, off, none⟩) (cs := l.map bv)
          Try.underlying39 (by kernel_rfl) (Blk.new _ _ _) (by simp [HLEN.out]) (fun k v hk => by rw [addr_of_add, cells_alloc hbl]; exact hcell k v hk) (by rw [hz]; simp [HLEN.out]) (fun v hv => bvs_one l v hv)
        have hrow1 : (zlooseAt (j : Int)).toList.take 1 ++ l.map bv ++ (zlooseAt (j : Int)).toList.drop (1 + (l.map bv).length) = looseCells (j, l) := by
          rw [List.drop_of_length_le (by simp [zlooseAt, HLEN.out])]
          simp [zlooseAt, looseCells]
        rw [hrow1, World.setRow_alloc_new] at hcp
        have hx : (j, l).1 < N ∧ (j, l).2.length = 128 := ⟨hj, HLEN.out⟩
        have hlen129 : (looseCells (j, l)).toArray.size = 129 := by simpa using looseCells_length hx
        -- the sector
        obtain ⟨gn, capn, curn, rfl, hFn, hgn, hBn, hncn, hcmn, hcsn, hcurn⟩ := hD.now.form hD.ok.pos
        have hl63 := LoadS.same (P := Try.prog) (w := w1.alloc (.cells (looseCells (j, l)).toArray 119)) (g := w1.heap.size) (o := 1) (Blk.new _ _ _) u_sector rfl i_sector (by rw [hlen129]; omega) (w1.alloc (.cells (looseCells (j, l)).toArray 119)).drew rfl
        have hv63 : (looseCells (j, l)).toArray.extract 1 (1 + 128) = (l.map bv).toArray := by
          apply Array.ext'
          rw [Array.toList_extract, List.extract_eq_take_drop]
          simp only [looseCells, List.drop_succ_cons, List.drop_zero]
          rw [List.take_of_length_le (by simp [HLEN.out])]
        rw [hv63] at hl63
        have hxs : (l.map bv).toArray.size = 128 := by simpa using HLEN.out
        have hle2 : j * 128 + (l.map bv).toArray.size ≤ curn.size := by rw [hcsn, hxs]; omega
        have hs63 := StoreS.of_blk (P := Try.prog) (w := (w1.alloc (.cells (looseCells (j, l)).toArray 119)).drew) (ty := 113) ((hBn.alloc (.cells (looseCells (j, l)).toArray 119)).drew) (by rw [hxs]; exact i_sector) hle2 (fun v hv => bvs_one l v (by simpa using hv))
        generalize hrow : (curn.toList.take (j * 128) ++ (l.map bv).toArray.toList ++ curn.toList.drop (j * 128 + (l.map bv).toArray.toList.length)).toArray = row at hs63
        have hnewS : DiskAt ((w1.alloc (.cells (looseCells (j, l)).toArray 119)).drew.setRow gn row) F p N { D1 with now := D1.now.set j l } vs (.slice (some ⟨gn, 0, none⟩) N capn) vl := by
          subst hrow
          exact (hD.alloc (.cells (looseCells (j, l)).toArray 119)).drew.putNow ((hBn.alloc (.cells (looseCells (j, l)).toArray 119)).drew) hj HLEN.out
        have hSt3 : Step w ((w1.alloc (.cells (looseCells (j, l)).toArray 119)).drew.setRow gn row) F F := ((hSt.alloc _).drew).setRow (.inl hFn) _
        have hBL : Blk ((w1.alloc (.cells (looseCells (j, l)).toArray 119)).drew.setRow gn row) w1.heap.size 119 (looseCells (j, l)).toArray := (Blk.new w1 _ _).drew.row_far (by omega) _
        have hsz3 : ((w1.alloc (.cells (looseCells (j, l)).toArray 119)).drew.setRow gn row).heap.size = w1.heap.size + 1 := by simp
        obtain ⟨c0, c1, c2, c3, c4, c5, c6, c7, fz⟩ := head_cells hD.head
        have hpa := cells_alloc hD.head.lt
        have hw1s : w.heap.size ≤ w1.heap.size := hSt.size
        clear hz hrow1 hv63 hxs hle2 hBn hcurn hcsn hrow hD hcell hbl hbB hS1 hSt
        go_wp2_with fail
        refine region_tail 8 (by kernel_rfl) (by kernel_rfl) ?_
        simp only [List.take_succ_cons, List.take_zero, List.drop_succ_cons, List.drop_zero]
        repeat still_step
        refine wpStill_nil ?_
        generalize (w1.alloc (.cells (looseCells (j, l)).toArray 119)).drew.setRow gn row = W3 at *
        clear c0 c1 c2 c3 c4 c5 c6 c7 fz hpa hcp hl63 hst
        clear hsz3
        have hpa3 := cells_alloc hnewS.head.lt
        have hls := fun W : World => list_loose hlen129 W
        have hval : (looseCells (j, l)).toArray.extract 0 (0 + 129) = (looseCells (j, l)).toArray := by
          apply Array.ext'
          rw [Array.toList_extract, List.extract_eq_take_drop, List.drop_zero, List.take_of_length_le (by have : (looseCells (j, l)).length = 129 := looseCells_length (x := (j, l)) (N := N) hx; simp; omega)]
        have hl65 := LoadS.same (P := Try.prog) (w := W3) (g := w1.heap.size) (o := 0) hBL u_loose rfl i_loose (by rw [hlen129]; omega) W3.drew rfl
        rw [hval] at hl65
        have hslc : Slc (W3.alloc (.cells (looseCells (j, l)).toArray 119)).drew (W3.heap.size + 1) 129 (some ⟨W3.heap.size, 0, none⟩) 1 1 (looseCells (j, l)) :=
          (slc_new W3 119 (0, 0) (looseCells (j, l)).toArray (sz := 129) (n := 1) (c := 1) hlen129 (Nat.le_refl _) (by decide)).drew
        obtain ⟨A', c', w4, hap, hown, hg, hat⟩ := append_loose ((W3.alloc (.cells (looseCells (j, l)).toArray 119)).drew) vl D1.loose hnewS.ok.loose ((hnewS.alloc (.cells (looseCells (j, l)).toArray 119)).drew).loose.own (j, l) hx hslc hroom1
        have hW34 : Step w w4 F F := ((hSt3.alloc (.cells (looseCells (j, l)).toArray 119)).drew).grown hg (fun k hk => .inl (hnewS.loose.foot k hk))
        have hhead4 : Blk w4 p 112 #[vs, .slice (some ⟨gn, 0, none⟩) N capn, vl, .bool D1.up, .int .i64 D1.deeds, .bool D1.armed, .int .i64 D1.after, .int .u64 (D1.keep.toNat : Int)] :=
          ((hnewS.alloc (.cells (looseCells (j, l)).toArray 119)).drew).head.grown hg (fun e => own_ne hnewS.head hnewS.loose (by decide) p e.symm rfl)
        obtain ⟨d0, d1, d2, d3, d4, d5, d6, d7, dz⟩ := head_cells hhead4
        obtain ⟨c0, c1, c2, c3, c4, c5, c6, c7, fz⟩ := head_cells hnewS.head
        have hfin : ∃ F', Step w (w4.setCell ⟨p, 2, none⟩ (.slice A' (D1.loose.length + 1) c')) F F' ∧ Disk (w4.setCell ⟨p, 2, none⟩ (.slice A' (D1.loose.length + 1) c')) F' p N { D1 with now := D1.now.set j l, loose := D1.loose ++ [(j, l)] } := by
          have hpF : F p := hnewS.foot
          have hs4 := hg.size
          simp only [World.size_drew, World.size_alloc] at hs4
          have hs3 := hSt3.size
          refine ⟨fun k => F k ∨ (w.heap.size ≤ k ∧ k < w4.heap.size), (hW34.setCell (p := ⟨p, 2, none⟩) (.inl hpF) _).fewer (fun k hk => hk.imp id And.left), fun k hk => ?_, vs, .slice (some ⟨gn, 0, none⟩) N capn, .slice A' (D1.loose.length + 1) c', ?_⟩
          · have hsz : (w4.setCell ⟨p, 2, none⟩ (.slice A' (D1.loose.length + 1) c')).heap.size = w4.heap.size := by simp [World.setCell]
            rw [hsz]
            rcases hk with hk | hk
            · have := HBD.out k hk; omega
            · exact hk.2
          · exact ((hnewS.alloc (.cells (looseCells (j, l)).toArray 119)).drew).pushLoose hg hown hx (fun k hk => .inl hk) hat (fun e => .inr (by have := (hown.lt _ e).2; simp at this ⊢; omega))
        have HFIN := Lib.hid hfin
        clear hown hg hat hslc hhead4 hfin hnewS hval hlen129 hx hBL
        go_wp2_with fail
        go_region
        go_wp2_with fail
        go_ret
        exact ⟨rfl, HFIN.out⟩
    · have hE : D.writeE N (j : Int) l = 44 := by unfold DiskM.writeE; rw [if_neg (by simp [hme]), if_pos (by simpa using h128)]
      have hW : D.write N (j : Int) l = D := by unfold DiskM.write; rw [if_neg (by simp [hme]), if_pos (by simpa using h128)]
      rw [hE, hW]
      have hne : ((n : Int) != 128) = true := by simp; omega
      clear hE hW hF h hlen h128 hme hin hS hsep
      go_enter Try.func47, Try.ntmps47
      go_wp2_with fail
      refine HM.out.mono ?_
      rintro e w' ⟨rfl, rfl⟩
      go_wp2_with fail
      go_ret
      exact ⟨rfl, F, Step.refl _ _, HH.out⟩
  · have hE : D.writeE N i l = D.mayE N i := by unfold DiskM.writeE; rw [if_pos hme]
    have hW : D.write N i l = D := by unfold DiskM.write; rw [if_pos hme]
    rw [hE, hW]
    generalize D.mayE N i = E at *
    have HM := Lib.hid hM
    have hne : (E != 0) = true := by simpa using hme
    clear hE hW hF h hlen hme hS hsep hM
    go_enter Try.func47, Try.ntmps47
    go_wp2_with fail
    refine HM.out.mono ?_
    rintro e w' ⟨rfl, rfl⟩
    go_wp2_with fail
    go_ret
    exact ⟨rfl, F, Step.refl _ _, HH.out⟩
end
end Go.Proofs.Ytmhgahkainmbkaa
namespace Go.Proofs.Ytmhgahkainmbkaa
open Go.RowKit
set_option linter.unusedVariables false
set_option linter.unusedSimpArgs false

def DiskM.fresh (N : Nat) : DiskM := { safe := List.replicate N (List.replicate 128 0), now := List.replicate N (List.replicate 128 0), loose := [], up := true, deeds := 0, armed := false, after := 0, keep := 0 }
theorem fresh_ok {N : Nat} (h1 : 1 ≤ N) (h2 : N ≤ 1024) : (DiskM.fresh N).Ok N := by
  have hs : Sectors (List.replicate N (List.replicate 128 0)) := fun s hs => by
    obtain ⟨_, rfl⟩ := List.mem_replicate.1 hs; simp
  exact ⟨h1, h2, by simp [DiskM.fresh], by simp [DiskM.fresh], hs, hs, fun x hx => by cases hx⟩

theorem flat_zero (N : Nat) : flat (List.replicate N (List.replicate 128 0)) = List.replicate (N * 128) (.int .u8 0) := by
  induction N with
  | zero => rfl
  | succ N ih =>
    rw [List.replicate_succ, show flat (List.replicate 128 0 :: List.replicate N (List.replicate 128 0)) = (List.replicate 128 0).map bv ++ flat (List.replicate N (List.replicate 128 0)) from rfl, ih, Nat.succ_mul, Nat.add_comm, ← List.replicate_append_replicate]
    congr 1
def zsecs (N : Nat) : Array Value := (List.replicate (N * 128) (.int .u8 0)).toArray
theorem zsecs_flat (N : Nat) : (zsecs N).toList = flat (List.replicate N (List.replicate 128 0)) := by rw [flat_zero]; rfl

theorem zbytes_at (n k : Nat) (h : k < (zbytes n).size) : (zbytes n)[k] = .int .u8 0 := by
  unfold zbytes at h ⊢
  simp only [List.getElem_toArray, List.getElem_replicate]
theorem make_secs_mark (n c : Value) : Instr.makeSlice 109 n c = MakeS 109 n c := rfl
theorem sector_info : (Try.prog.info? 113).map (fun i => (i.zero, i.size, i.bytes)) = some (some (.agg (zbytes 128)), 128, 128) := by kernel_rfl
theorem make_secs (N : Nat) (hN : N ≤ 1024) (W : World) : Sem.run Try.prog (MakeS 109 (.int .i64 (N : Int)) (.int .i64 (N : Int))) W = .ok (.slice (some ⟨W.heap.size, 0, none⟩) N N) (W.alloc (.cells (zsecs N) 113)) := by
  obtain ⟨i, hi, hz, hs, hb⟩ := info_parts sector_info
  have := run_make (P := Try.prog) W 109 113 i _ Try.underlying109 hi hz .i64 .i64 (N : Int) (N : Int) (by omega) (by omega) (by rw [hb]; omega) (by omega)
  rw [Int.toNat_natCast, hs] at this
  have hc : madeCells (Value.agg (zbytes 128)).cells (N * 128) = zsecs N := by
    rw [show (Value.agg (zbytes 128)).cells = zbytes 128 from rfl]
    have hz : ∀ k, (zbytes 128)[k % (zbytes 128).size]! = .int .u8 0 := fun k => by
      have hk : k % (zbytes 128).size < (zbytes 128).size := Nat.mod_lt _ (by rw [zbytes_size]; decide)
      rw [getElem!_pos (zbytes 128) _ hk]
      exact zbytes_at _ _ _
    unfold madeCells zsecs
    simp only [hz]
    apply Array.ext'
    rw [Array.toList_map, List.map_const', Array.length_toList, Array.size_range]
  rw [hc] at this
  exact this

theorem build_disk_mark (parts : Array (Nat × Value)) : Instr.build 112 parts = BuildS 112 parts := rfl
theorem build_disk (a b : Option Addr) (n m c d : Nat) (W : World) : Sem.run Try.prog (BuildS 112 #[(0, .slice a n c), (1, .slice b m d), (3, .bool true)]) W = .ok (.agg #[.slice a n c, .slice b m d, .slice none 0 0, .bool true, .int .i64 0, .bool false, .int .i64 0, .int .u64 0]) W := by kernel_rfl

section
attribute [local go_sem ↓] make_secs_mark build_disk_mark
attribute [local go_sem] build_disk

theorem newNil_any (n : Int) (hn : n < 1 ∨ 1024 < n) (w : World) :
    Calls Try.prog 33 #[.int .i64 n] w fun e w' => e = .returned (.pointer none) ∧ w = w' := by
  rcases hn with hn | hn
  · go_enter Try.func33, Try.ntmps33
    go_wp2
    go_ret
    exact ⟨rfl, rfl⟩
  · go_enter Try.func33, Try.ntmps33
    go_wp2
    go_ret
    exact ⟨rfl, rfl⟩

theorem fresh_at (w w' : World) (N s1 s2 p : Nat) (h1 : 1 ≤ N) (h2 : N ≤ 1024) (hs1 : w.heap.size ≤ s1) (hs2 : w.heap.size ≤ s2) (hp : w.heap.size ≤ p) (hne : s1 ≠ s2)
    (b1 : Blk w' s1 113 (zsecs N)) (b2 : Blk w' s2 113 (zsecs N))
    (bp : Blk w' p 112 #[.slice (some ⟨s1, 0, none⟩) N N, .slice (some ⟨s2, 0, none⟩) N N, .slice none 0 0, .bool true, .int .i64 0, .bool false, .int .i64 0, .int .u64 0]) :
    Disk w' (fun k => w.heap.size ≤ k ∧ k < w'.heap.size) p N (DiskM.fresh N) := by
  have row : ∀ s, w.heap.size ≤ s → Blk w' s 113 (zsecs N) → Row w' (fun k => w.heap.size ≤ k ∧ k < w'.heap.size) 113 128 (.slice (some ⟨s, 0, none⟩) N N) N (flat (List.replicate N (List.replicate 128 0))) := fun s hs hb => by
    refine ⟨⟨by rw [flat_zero]; simp, .inr ⟨s, N, zsecs N, rfl, Nat.zero_le _, hb, Nat.le_refl _, by unfold maxLen; omega, by simp [zsecs], ?_⟩⟩, fun k hk => ?_⟩
    · rw [List.take_of_length_le (by simp [zsecs]), zsecs_flat]
    · injection hk with hk; simp only at hk; subst hk; exact ⟨hs, hb.lt⟩
  exact ⟨fun k hk => hk.2, _, _, _, fresh_ok h1 h2, ⟨hp, bp.lt⟩, bp, row s1 hs1 b1, row s2 hs2 b2, Row.nil_ _ _ _ _, by
    intro e; injection e with e; exact hne e⟩

theorem blk_at {w : World} {t : TypeId} {cs : Array Value} {g : Nat} (h : g = w.heap.size) : Blk (w.alloc (.cells cs t)) g t cs := by subst h; exact Blk.new w t cs

set_option maxRecDepth 100000 in
theorem new_any (N : Nat) (h1 : 1 ≤ N) (h2 : N ≤ 1024) (w : World) :
    Calls Try.prog 33 #[.int .i64 (N : Int)] w fun e w' => ∃ p, e = .returned (.pointer (some ⟨p, 0, none⟩)) ∧ Below w.heap.size w w' ∧ Disk w' (fun k => w.heap.size ≤ k ∧ k < w'.heap.size) p N (DiskM.fresh N) := by
  have hmk := make_secs N h2
  go_enter Try.func33, Try.ntmps33
  go_wp2_with fail
  go_region
  all_goals
    go_wp2_with fail
    go_ret
    refine ⟨_, rfl, (((((Below.refl _ w).alloc (Nat.le_refl _) _).alloc (by simp) _).alloc (by simp; omega) _).drew), ?_⟩
  · refine fresh_at w _ N w.heap.size (w.heap.size + 1) (w.heap.size + 1 + 1) h1 h2 (Nat.le_refl _) (by omega) (by omega) (by omega) ?_ ?_ ?_
    · exact ((((Blk.new w _ _).alloc _)).alloc _).drew
    · refine ((blk_at ?_).alloc _).drew
      simp
    · refine (blk_at ?_).drew
      simp
  · refine fresh_at w _ N (w.heap.size + 1) w.heap.size (w.heap.size + 1 + 1) h1 h2 (by omega) (Nat.le_refl _) (by omega) (by omega) ?_ ?_ ?_
    · refine ((blk_at ?_).alloc _).drew
      simp
    · exact ((((Blk.new w _ _).alloc _)).alloc _).drew
    · refine (blk_at ?_).drew
      simp
end
end Go.Proofs.Ytmhgahkainmbkaa
namespace Go.Proofs.Ytmhgahkainmbkaa
open Go.RowKit
set_option linter.unusedVariables false
set_option linter.unusedSimpArgs false

theorem append_sectors (w : World) {l : List (List UInt8)} {N : Nat} (hN : N ≤ 1024) {base : Nat} {v : Value} (hown : w.ownsRow base 113 128 v 0 [])
    {B : Nat} {A : Option Addr} {c : Nat} (hr : Slc w B 128 A N c (flat l)) (hb : base ≤ w.heap.size) :
    ∃ A' c' w', (AppendS #[109, 109] 109 #[v, .slice A N c]).run Try.prog w = .ok (.slice A' N c') w' ∧ w'.ownsRow base 113 128 (.slice A' N c') N (flat l) ∧ w.grownBy w' v.ownBlock ∧
      ((Value.slice A' N c').ownBlock = v.ownBlock ∨ (Value.slice A' N c').ownBlock = some w.heap.size) := by
  obtain ⟨i, hi, hz, hs, hbb⟩ := info_parts sector_info
  have := append_slc (P := Try.prog) w base 109 109 113 i _ 128 128 Try.underlying109 hi hz hs hbb (by rw [show (Value.agg (zbytes 128)).cells = zbytes 128 from rfl, zbytes_size]) (by decide) v 0 [] hown B A N c _ hr (fun u hu => by
    obtain ⟨s, _, hs⟩ := List.mem_flatMap.1 hu
    exact bvs_one s u hs) (by unfold maxLen; omega) (by omega) hb
  simp only [Nat.zero_add, List.nil_append] at this
  exact this
theorem append_looses (w : World) {l : List (Nat × List UInt8)} (hN : l.length ≤ 1000000) {base : Nat} {v : Value} (hown : w.ownsRow base 119 129 v 0 [])
    {B : Nat} {A : Option Addr} {c : Nat} (hr : Slc w B 129 A l.length c (flatLoose l)) (hb : base ≤ w.heap.size) :
    ∃ A' c' w', (AppendS #[110, 110] 110 #[v, .slice A l.length c]).run Try.prog w = .ok (.slice A' l.length c') w' ∧ w'.ownsRow base 119 129 (.slice A' l.length c') l.length (flatLoose l) ∧ w.grownBy w' v.ownBlock ∧
      ((Value.slice A' l.length c').ownBlock = v.ownBlock ∨ (Value.slice A' l.length c').ownBlock = some w.heap.size) := by
  cases hi : Try.prog.info? 119 with
  | none => have := loose_info; rw [hi] at this; cases this
  | some i =>
    have h := loose_info
    rw [hi] at h
    simp only [Option.map_some, Option.some.injEq, Prod.mk.injEq] at h
    cases hz : i.zero with
    | none => rw [hz] at h; simp at h
    | some z =>
      rw [hz] at h
      simp only [Option.map_some, Option.some.injEq] at h
      have := append_slc (P := Try.prog) w base 110 110 119 i z 129 136 Try.underlying110 hi hz h.2.1 h.2.2 h.1 (by decide) v 0 [] hown B A l.length c _ hr (fun u hu => by
        obtain ⟨s, _, hs⟩ := List.mem_flatMap.1 hu
        exact looseCells_one s u hs) (by unfold maxLen; omega) (by omega) hb
      simp only [Nat.zero_add, List.nil_append] at this
      exact this

theorem row_kept {w w' : World} {F : Nat → Prop} {base : Nat} {e : TypeId} {sz : Nat} {v : Value} {n : Nat} {xs : List Value} (h : w.ownsRow base e sz v n xs) (hb : ∀ k, v.ownBlock = some k → w'.heap[k]? = w.heap[k]?) (hF : ∀ k, v.ownBlock = some k → F k) : Row w' F e sz v n xs := by
  refine ⟨⟨h.1, ?_⟩, hF⟩
  rcases h.2 with hn | ⟨g, cap, cur, rfl, h1, h2, rest⟩
  · exact .inl hn
  · exact .inr ⟨g, cap, cur, rfl, Nat.zero_le _, by rw [hb g rfl]; exact h2, rest⟩

section
attribute [local go_sem ↓] appendS_mark
variable {w : World} {F : Nat → Prop} {p N : Nat} {D : DiskM}

end
end Go.Proofs.Ytmhgahkainmbkaa
