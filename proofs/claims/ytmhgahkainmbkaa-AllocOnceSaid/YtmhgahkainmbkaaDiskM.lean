/- The disk as plain data, and how it lies in memory. -/
import Derived.Test.YtmhgahkainmbkaaMarks
namespace Go.Proofs.Ytmhgahkainmbkaa
open Go.RowKit

structure DiskM where
  safe : List (List UInt8)
  now : List (List UInt8)
  loose : List (Nat × List UInt8)
  up : Bool
  deeds : Int
  armed : Bool
  after : Int
  keep : UInt64

/-- Sectors as cells. -/
def flat (l : List (List UInt8)) : List Value := l.flatMap fun s => s.map bv
def looseCells (x : Nat × List UInt8) : List Value := .int .i64 (x.1 : Int) :: x.2.map bv
def flatLoose (l : List (Nat × List UInt8)) : List Value := l.flatMap looseCells

def Sectors (l : List (List UInt8)) : Prop := ∀ s ∈ l, s.length = 128

theorem flat_length {l : List (List UInt8)} (h : Sectors l) : (flat l).length = l.length * 128 := by
  induction l with
  | nil => rfl
  | cons s l ih =>
    have h1 := h s (List.mem_cons_self)
    have h2 := ih (fun x hx => h x (List.mem_cons_of_mem _ hx))
    simp only [flat, List.flatMap_cons, List.length_append, List.length_map, List.length_cons] at h2 ⊢
    omega
theorem flat_append (l m : List (List UInt8)) : flat (l ++ m) = flat l ++ flat m := by simp [flat]
theorem flat_take {l : List (List UInt8)} (h : Sectors l) (i : Nat) (hi : i ≤ l.length) : (flat l).take (i * 128) = flat (l.take i) := by
  have e : flat l = flat (l.take i) ++ flat (l.drop i) := by rw [← flat_append, List.take_append_drop]
  rw [e, List.take_left']
  rw [flat_length (fun s hs => h s (List.mem_of_mem_take hs)), List.length_take]
  omega
theorem flat_drop {l : List (List UInt8)} (h : Sectors l) (i : Nat) (hi : i ≤ l.length) : (flat l).drop (i * 128) = flat (l.drop i) := by
  have e : flat l = flat (l.take i) ++ flat (l.drop i) := by rw [← flat_append, List.take_append_drop]
  rw [e, List.drop_left']
  rw [flat_length (fun s hs => h s (List.mem_of_mem_take hs)), List.length_take]
  omega
theorem flat_at {l : List (List UInt8)} (h : Sectors l) (i : Nat) (hi : i < l.length) : ((flat l).drop (i * 128)).take 128 = (l[i]).map bv := by
  rw [flat_drop h i (by omega), List.drop_eq_getElem_cons hi]
  simp only [flat, List.flatMap_cons]
  rw [List.take_left']
  simpa using h _ (List.getElem_mem hi)
theorem flat_set {l : List (List UInt8)} (h : Sectors l) (i : Nat) (hi : i < l.length) (s : List UInt8) (hs : s.length = 128) :
    (flat l).take (i * 128) ++ s.map bv ++ (flat l).drop (i * 128 + (s.map bv).length) = flat (l.set i s) := by
  rw [List.length_map, hs, show i * 128 + 128 = (i + 1) * 128 by omega, flat_take h i (by omega), flat_drop h (i + 1) (by omega), List.set_eq_take_append_cons_drop, if_pos hi, flat_append, List.append_assoc]
  rfl
theorem Sectors.set {l : List (List UInt8)} (h : Sectors l) (i : Nat) {s : List UInt8} (hs : s.length = 128) : Sectors (l.set i s) := fun x hx => by
  rcases List.mem_or_eq_of_mem_set hx with h1 | rfl
  · exact h x h1
  · exact hs

def Looses (N : Nat) (l : List (Nat × List UInt8)) : Prop := ∀ x ∈ l, x.1 < N ∧ x.2.length = 128
theorem looseCells_length {N : Nat} {x : Nat × List UInt8} (h : x.1 < N ∧ x.2.length = 128) : (looseCells x).length = 129 := by simp [looseCells, h.2]
theorem flatLoose_append (l m : List (Nat × List UInt8)) : flatLoose (l ++ m) = flatLoose l ++ flatLoose m := by simp [flatLoose]
theorem flatLoose_length {N : Nat} {l : List (Nat × List UInt8)} (h : Looses N l) : (flatLoose l).length = l.length * 129 := by
  induction l with
  | nil => rfl
  | cons s l ih =>
    have h1 := looseCells_length (h s (List.mem_cons_self))
    have h2 := ih (fun x hx => h x (List.mem_cons_of_mem _ hx))
    simp only [flatLoose, List.flatMap_cons, List.length_append, List.length_cons] at h2 ⊢
    omega
theorem flatLoose_at {N : Nat} {l : List (Nat × List UInt8)} (h : Looses N l) (i : Nat) (hi : i < l.length) : ((flatLoose l).drop (i * 129)).take 129 = looseCells l[i] := by
  have e : flatLoose l = flatLoose (l.take i) ++ flatLoose (l.drop i) := by rw [← flatLoose_append, List.take_append_drop]
  rw [e, List.drop_left' (by rw [flatLoose_length (N := N) (fun x hx => h x (List.mem_of_mem_take hx)), List.length_take]; omega), List.drop_eq_getElem_cons hi]
  simp only [flatLoose, List.flatMap_cons]
  rw [List.take_left' (looseCells_length (h _ (List.getElem_mem hi)))]

/-- A disk of N sectors that may be. -/
structure DiskM.Ok (D : DiskM) (N : Nat) : Prop where
  pos : 1 ≤ N
  most : N ≤ 1024
  safeLen : D.safe.length = N
  nowLen : D.now.length = N
  safe : Sectors D.safe
  now : Sectors D.now
  loose : Looses N D.loose

/-- How it lies in memory: F: the blocks that are its own. -/
structure DiskAt (w : World) (F : Nat → Prop) (p N : Nat) (D : DiskM) (vs vn vl : Value) : Prop where
  ok : D.Ok N
  foot : F p
  head : Blk w p 112 #[vs, vn, vl, .bool D.up, .int .i64 D.deeds, .bool D.armed, .int .i64 D.after, .int .u64 (D.keep.toNat : Int)]
  safe : Row w F 113 128 vs N (flat D.safe)
  now : Row w F 113 128 vn N (flat D.now)
  loose : Row w F 119 129 vl D.loose.length (flatLoose D.loose)
  apart : vs.ownBlock ≠ vn.ownBlock

/-- The head's cells, for a walk. -/
theorem head_cells {w : World} {p : Nat} {t : TypeId} {a0 a1 a2 a3 a4 a5 a6 a7 : Value} (h : Blk w p t #[a0, a1, a2, a3, a4, a5, a6, a7]) :
    w.cell? ⟨p, 0, none⟩ = some a0 ∧ w.cell? ⟨p, 1, none⟩ = some a1 ∧ w.cell? ⟨p, 2, none⟩ = some a2 ∧ w.cell? ⟨p, 3, none⟩ = some a3 ∧ w.cell? ⟨p, 4, none⟩ = some a4 ∧ w.cell? ⟨p, 5, none⟩ = some a5 ∧ w.cell? ⟨p, 6, none⟩ = some a6 ∧ w.cell? ⟨p, 7, none⟩ = some a7 ∧
      (∀ i, w.frozen? ⟨p, i, none⟩ = false) :=
  ⟨h.cell 0, h.cell 1, h.cell 2, h.cell 3, h.cell 4, h.cell 5, h.cell 6, h.cell 7, h.frozen⟩

theorem DiskAt.step {w w' : World} {F G K : Nat → Prop} {p N : Nat} {D : DiskM} {vs vn vl : Value} (h : DiskAt w F p N D vs vn vl) (s : Step w w' G K) (hd : ∀ k, F k → ¬ G k) : DiskAt w' F p N D vs vn vl :=
  ⟨h.ok, h.foot, h.head.step s (hd p h.foot), h.safe.step s hd, h.now.step s hd, h.loose.step s hd, h.apart⟩

theorem DiskAt.free {w w' : World} {F : Nat → Prop} {p N : Nat} {D : DiskM} {vs vn vl : Value} (h : DiskAt w F p N D vs vn vl) (hb : Below w.heap.size w w') : DiskAt w' F p N D vs vn vl :=
  h.step (Step.of_below hb (fun _ => False)) (fun _ _ h => h)
theorem DiskAt.alloc {w : World} {F : Nat → Prop} {p N : Nat} {D : DiskM} {vs vn vl : Value} (h : DiskAt w F p N D vs vn vl) (o : Obj) : DiskAt (w.alloc o) F p N D vs vn vl :=
  h.free ((Below.refl _ _).alloc (Nat.le_refl _) o)
theorem DiskAt.drew {w : World} {F : Nat → Prop} {p N : Nat} {D : DiskM} {vs vn vl : Value} (h : DiskAt w F p N D vs vn vl) : DiskAt w.drew F p N D vs vn vl :=
  h.free (Below.refl _ _).drew
theorem DiskAt.drewN {w : World} {F : Nat → Prop} {p N : Nat} {D : DiskM} {vs vn vl : Value} (h : DiskAt w F p N D vs vn vl) (n : Nat) : DiskAt (w.drewN n) F p N D vs vn vl :=
  h.free ⟨rfl, rfl, rfl, Nat.le_refl _, fun _ _ => rfl⟩

theorem setRow_far {w : World} {g k : Nat} (h : k ≠ g) (cs : Array Value) : (w.setRow g cs).heap[k]? = w.heap[k]? := by
  simp only [World.setRow, Array.getElem?_modify]
  rw [if_neg (fun e => h e.symm)]

theorem own_ne {w : World} {F : Nat → Prop} {g : Nat} {t e : TypeId} {cs : Array Value} {sz n : Nat} {v : Value} {xs : List Value} (hb : Blk w g t cs) (h : Row w F e sz v n xs) (hne : t ≠ e) : ∀ k, v.ownBlock = some k → k ≠ g := by
  intro k hk e1
  subst e1
  rcases h.own.2 with ⟨rfl, _⟩ | ⟨g', cap, cur, rfl, _, h2, _⟩
  · cases hk
  · injection hk with hk
    simp only at hk
    subst hk
    exact Blk.ne_ hb h2 hne rfl

/-- A sector of the safe ones is written anew. -/
theorem DiskAt.putSafe {w : World} {F : Nat → Prop} {p N : Nat} {D : DiskM} {vn vl : Value} {gs caps : Nat} (h : DiskAt w F p N D (.slice (some ⟨gs, 0, none⟩) N caps) vn vl) {curs : Array Value} (hB : Blk w gs 113 curs)
    {i : Nat} (hi : i < N) {s : List UInt8} (hs : s.length = 128) :
    DiskAt (w.setRow gs (curs.toList.take (i * 128) ++ s.map bv ++ curs.toList.drop (i * 128 + (s.map bv).length)).toArray) F p N { D with safe := D.safe.set i s } (.slice (some ⟨gs, 0, none⟩) N caps) vn vl := by
  refine ⟨⟨h.ok.pos, h.ok.most, by simpa using h.ok.safeLen, h.ok.nowLen, h.ok.safe.set i hs, h.ok.now, h.ok.loose⟩, h.foot, h.head.row_far (Blk.ne_ h.head hB (by decide)) _, ?_, ?_, ?_, h.apart⟩
  · have := h.safe.put (i := i) hi (ys := s.map bv) (by simpa using hs) hB
    rw [flat_set h.ok.safe i (by rw [h.ok.safeLen]; exact hi) s hs] at this
    exact this
  · refine h.now.kept (fun k hk => setRow_far (fun e => ?_) _) h.now.foot
    exact h.apart (by rw [hk, e]; rfl)
  · exact h.loose.kept (fun k hk => setRow_far (own_ne hB h.loose (by decide) k hk) _) h.loose.foot
/-- A sector as it is read is written anew. -/
theorem DiskAt.putNow {w : World} {F : Nat → Prop} {p N : Nat} {D : DiskM} {vs vl : Value} {gn capn : Nat} (h : DiskAt w F p N D vs (.slice (some ⟨gn, 0, none⟩) N capn) vl) {curn : Array Value} (hB : Blk w gn 113 curn)
    {i : Nat} (hi : i < N) {s : List UInt8} (hs : s.length = 128) :
    DiskAt (w.setRow gn (curn.toList.take (i * 128) ++ s.map bv ++ curn.toList.drop (i * 128 + (s.map bv).length)).toArray) F p N { D with now := D.now.set i s } vs (.slice (some ⟨gn, 0, none⟩) N capn) vl := by
  refine ⟨⟨h.ok.pos, h.ok.most, h.ok.safeLen, by simpa using h.ok.nowLen, h.ok.safe, h.ok.now.set i hs, h.ok.loose⟩, h.foot, h.head.row_far (Blk.ne_ h.head hB (by decide)) _, ?_, ?_, ?_, h.apart⟩
  · refine h.safe.kept (fun k hk => setRow_far (fun e => ?_) _) h.safe.foot
    exact h.apart (by rw [hk, e]; rfl)
  · have := h.now.put (i := i) hi (ys := s.map bv) (by simpa using hs) hB
    rw [flat_set h.ok.now i (by rw [h.ok.nowLen]; exact hi) s hs] at this
    exact this
  · exact h.loose.kept (fun k hk => setRow_far (own_ne hB h.loose (by decide) k hk) _) h.loose.foot
/-- All sectors as they are read are written anew. -/
theorem DiskAt.allNow {w : World} {F : Nat → Prop} {p N : Nat} {D : DiskM} {vs vl : Value} {gn capn : Nat} (h : DiskAt w F p N D vs (.slice (some ⟨gn, 0, none⟩) N capn) vl) {curn : Array Value} (hB : Blk w gn 113 curn)
    {S : List (List UInt8)} (hS : Sectors S) (hl : S.length = N) :
    DiskAt (w.setRow gn (flat S ++ curn.toList.drop (flat S).length).toArray) F p N { D with now := S } vs (.slice (some ⟨gn, 0, none⟩) N capn) vl := by
  refine ⟨⟨h.ok.pos, h.ok.most, h.ok.safeLen, hl, h.ok.safe, hS, h.ok.loose⟩, h.foot, h.head.row_far (Blk.ne_ h.head hB (by decide)) _, ?_, ?_, ?_, h.apart⟩
  · refine h.safe.kept (fun k hk => setRow_far (fun e => ?_) _) h.safe.foot
    exact h.apart (by rw [hk, e]; rfl)
  · obtain ⟨g, cap, cur, hv, hf, hlt, hBg, hnc, hcm, hcs, hcur⟩ := h.now.form h.ok.pos
    injection hv with e1 e2 e3
    injection e1 with e1
    injection e1 with e1 _ _
    subst e1 e3
    have hcc : curn = cur := by
      unfold Blk at hB hBg
      rw [hB] at hBg
      injection hBg with hBg
      injection hBg with hBg
    subst hcc
    have hfl := flat_length hS
    have hle : N * 128 ≤ capn * 128 := Nat.mul_le_mul_right _ hnc
    have hcl : curn.toList.length = capn * 128 := by simpa using hcs
    refine ⟨⟨by rw [hfl, hl], .inr ⟨gn, capn, _, rfl, Nat.zero_le _, hB.row _, hnc, hcm, ?_, ?_⟩⟩, fun k hk => h.now.foot k hk⟩
    · simp only [List.size_toArray, List.length_append, List.length_drop]; omega
    · simp only
      rw [List.take_left']
      omega
  · exact h.loose.kept (fun k hk => setRow_far (own_ne hB h.loose (by decide) k hk) _) h.loose.foot

/-- The head is written anew. -/
theorem DiskAt.reHead {w w' : World} {F : Nat → Prop} {p N : Nat} {D D' : DiskM} {vs vn vl vl' : Value} (h : DiskAt w F p N D vs vn vl) (hk : ∀ k, k ≠ p → w'.heap[k]? = w.heap[k]?)
    (hB : Blk w' p 112 #[vs, vn, vl', .bool D'.up, .int .i64 D'.deeds, .bool D'.armed, .int .i64 D'.after, .int .u64 (D'.keep.toNat : Int)]) (hs : D'.safe = D.safe) (hn : D'.now = D.now)
    (hl : Row w F 119 129 vl' D'.loose.length (flatLoose D'.loose)) (hlo : Looses N D'.loose) : DiskAt w' F p N D' vs vn vl' := by
  refine ⟨⟨h.ok.pos, h.ok.most, by rw [hs]; exact h.ok.safeLen, by rw [hn]; exact h.ok.nowLen, by rw [hs]; exact h.ok.safe, by rw [hn]; exact h.ok.now, hlo⟩, h.foot, hB, ?_, ?_, ?_, h.apart⟩
  · rw [hs]; exact h.safe.kept (fun k hk' => hk k (own_ne h.head h.safe (by decide) k hk')) h.safe.foot
  · rw [hn]; exact h.now.kept (fun k hk' => hk k (own_ne h.head h.now (by decide) k hk')) h.now.foot
  · exact hl.kept (fun k hk' => hk k (own_ne h.head hl (by decide) k hk')) hl.foot
theorem Row.nil_ (w : World) (F : Nat → Prop) (e : TypeId) (sz : Nat) : Row w F e sz (.slice none 0 0) 0 [] := ⟨World.ownsRow_nil w 0 e sz, fun k hk => by cases hk⟩
theorem heap_set_far (w : World) (p i : Nat) (v : Value) (k : Nat) (h : k ≠ p) : (w.setCell ⟨p, i, none⟩ v).heap[k]? = w.heap[k]? := Below.heap_setCell w ⟨p, i, none⟩ v k h

theorem rows_ne {w : World} {F G : Nat → Prop} {t e : TypeId} {sz sz' n n' : Nat} {v v' : Value} {xs xs' : List Value} (h : Row w F t sz v n xs) (h' : Row w G e sz' v' n' xs') (hne : t ≠ e) : ∀ k, v.ownBlock = some k → v'.ownBlock ≠ some k := by
  intro k hk
  rcases h.own.2 with ⟨rfl, _⟩ | ⟨g, cap, cur, rfl, _, h2, _⟩
  · cases hk
  · injection hk with hk
    simp only at hk
    subst hk
    intro he
    exact own_ne (t := t) h2 h' hne g he rfl
/-- A loose write more. -/
theorem DiskAt.pushLoose {w w4 : World} {F G : Nat → Prop} {p N : Nat} {D : DiskM} {vs vn vl v' : Value} {x : Nat × List UInt8} (h : DiskAt w F p N D vs vn vl) (hg : w.grownBy w4 vl.ownBlock)
    (hown : w4.ownsRow 0 119 129 v' (D.loose.length + 1) (flatLoose (D.loose ++ [x]))) (hx : x.1 < N ∧ x.2.length = 128) (hF : ∀ k, F k → G k) (hat : v'.ownBlock = vl.ownBlock ∨ v'.ownBlock = some w.heap.size) (hnew : v'.ownBlock = some w.heap.size → G w.heap.size) :
    DiskAt (w4.setCell ⟨p, 2, none⟩ v') G p N { D with loose := D.loose ++ [x] } vs vn v' := by
  have hhead : Blk w4 p 112 #[vs, vn, vl, .bool D.up, .int .i64 D.deeds, .bool D.armed, .int .i64 D.after, .int .u64 (D.keep.toNat : Int)] := h.head.grown hg (fun e => own_ne h.head h.loose (by decide) p e.symm rfl)
  have hrow : Row w4 G 119 129 v' (D.loose.length + 1) (flatLoose (D.loose ++ [x])) := ⟨hown, fun k hk => by
    rcases hat with e | e
    · exact hF k (h.loose.foot k (by rw [← e]; exact hk))
    · rw [e] at hk; injection hk with hk; subst hk; exact hnew e⟩
  refine ⟨⟨h.ok.pos, h.ok.most, h.ok.safeLen, h.ok.nowLen, h.ok.safe, h.ok.now, fun y hy => ?_⟩, hF p h.foot, hhead.set_ 2 v', ?_, ?_, ?_, h.apart⟩
  · rcases List.mem_append.1 hy with hy | hy
    · exact h.ok.loose y hy
    · rw [List.mem_singleton.1 hy]; exact hx
  · refine h.safe.kept (fun k hk => ?_) (fun k hk => hF k (h.safe.foot k hk))
    rw [heap_set_far _ _ _ _ _ (own_ne h.head h.safe (by decide) k hk)]
    exact hg.block k (h.safe.lt k hk) (fun e => rows_ne h.safe h.loose (by decide) k hk e.symm)
  · refine h.now.kept (fun k hk => ?_) (fun k hk => hF k (h.now.foot k hk))
    rw [heap_set_far _ _ _ _ _ (own_ne h.head h.now (by decide) k hk)]
    exact hg.block k (h.now.lt k hk) (fun e => rows_ne h.now h.loose (by decide) k hk e.symm)
  · simp only [List.length_append, List.length_cons, List.length_nil]
    exact hrow.kept (fun k hk => heap_set_far _ _ _ _ _ (own_ne hhead hrow (by decide) k hk)) hrow.foot
end Go.Proofs.Ytmhgahkainmbkaa
