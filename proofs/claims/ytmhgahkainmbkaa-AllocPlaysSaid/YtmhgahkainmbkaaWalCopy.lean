/- The walk of maps.Copy. -/
import Derived.Test.YtmhgahkainmbkaaWalEq
import Derived.Maps.Range
namespace Go.Proofs.Ytmhgahkainmbkaa
open Go.RowKit Go.MapKept
set_option linter.unusedVariables false
set_option linter.unusedSimpArgs false

def NextS (x : Value) (b : Bool) (t : TypeId) : Sem Value := Instr.next x b t
def EntryS (x : Value) : Sem Value := Instr.entry x
def RangeS (t : TypeId) (x : Value) : Sem Value := Instr.range t x
theorem next_mark (x : Value) (b : Bool) (t : TypeId) : Instr.next x b t = NextS x b t := rfl
theorem entry_mark (x : Value) : Instr.entry x = EntryS x := rfl
theorem range_mark (x : Value) : Instr.range 75 x = RangeS 75 x := rfl

def seenKey (es : Array MapEntry) (seen : Array Nat) (i : Nat) : Prop := ∃ e ∈ es.toList, e.key = .int .i64 (i : Int) ∧ seen.contains e.born = true
open Classical in
/-- What has been copied so far. -/
def Copied (es : Array MapEntry) (seen : Array Nat) (a b m : SecMap) : Prop := ∀ i, mget m i = if seenKey es seen i then mget b i else mget a i

structure CopySt (w wr : World) (gd gs : Nat) (es : Array MapEntry) (clock : Nat) (a b : SecMap) (seen : Array Nat) (m : SecMap) : Prop where
  iter : wr.heap[w.heap.size]? = some (.mapIter (some gs) clock seen clock)
  src : wr.heap[gs]? = some (.map es clock)
  dst : MapAt wr gd m
  copied : Copied es seen a b m
  step : Step w wr (fun k => k = gd) (fun k => k = gd)

section
attribute [local go_sem ↓] load_wsector_mark store_wsector_mark alloc_wsector_mark mapSet_mark next_mark entry_mark range_mark
attribute [local go_sem] alloc_wsector
set_option maxRecDepth 100000 in
set_option maxHeartbeats 4000000 in
theorem mapcopy_any {w : World} {gd gs : Nat} {a b : SecMap} (hd : MapAt w gd a) (hs : MapAt w gs b) (hne : gd ≠ gs) (hb128 : ∀ x ∈ b, x.2.length = 128) :
    Calls Try.prog 50 #[.map (some gd), .map (some gs)] w fun e w' => e = .returned (.tuple #[]) ∧ MapAt w' gd (mcopy a b) ∧ Step w w' (fun k => k = gd) (fun k => k = gd) := by
  have hdr := hd.rising
  have hsl := hs.lt
  have hdl := hd.lt
  obtain ⟨es, clock, h1, h2, hsr, l, h4, h5⟩ := hs
  have hrun := run_range_map (P := Try.prog) w 75 3 80 gs es clock Try.underlying75 h1
  have hrun2 : (RangeS 75 (.map (some gs))).run Try.prog w = .ok (.pointer (some ⟨w.heap.size, 0, none⟩)) (w.alloc (.mapIter (some gs) clock #[] clock)) := hrun
  have hold : ∀ x ∈ es.toList, x.born < clock := ((stamped_iff es clock).1 h2).1
  have hnd := ((stamped_iff es clock).1 h2).2.1
  have hkeys := ((stamped_iff es clock).1 h2).2.2
  have hent : ∀ e ∈ es.toList, ∃ (k : Nat) (v : List UInt8), e.key = .int .i64 (k : Int) ∧ e.val = secV v ∧ mget b k = some v ∧ v.length = 128 := fun e he => by
    obtain ⟨y, hy, e1, e2⟩ := encE_keys h5 e he
    have hyb := h4.mem_iff.1 hy
    exact ⟨y.1, y.2, e1, e2, (mget_some hsr).2 hyb, hb128 _ hyb⟩
  have hkey : ∀ i v, mget b i = some v → ∃ e ∈ es.toList, e.key = .int .i64 (i : Int) := fun i v hv => by
    have hm := h4.mem_iff.2 ((mget_some hsr).1 hv)
    have : encE (i, v) ∈ es.toList.map entOf := by rw [h5]; exact List.mem_map_of_mem hm
    obtain ⟨e, he, ee⟩ := List.mem_map.1 this
    exact ⟨e, he, (Prod.ext_iff.1 ee).1⟩
  have h0 : CopySt w (w.alloc (.mapIter (some gs) clock #[] clock)) gd gs es clock a b #[] a :=
    ⟨heap_alloc_new w _, (Below.heap_alloc w _ gs hsl).trans h1, hd.kept (Below.heap_alloc w _ gd hdl), fun i => by rw [if_neg]; rintro ⟨e, _, _, h⟩; simp at h, (Step.refl w _).alloc _⟩
  have H0 := Lib.hid h0
  have HENT := Lib.hid hent
  have HKEY := Lib.hid hkey
  have HOLD := Lib.hid hold
  have HND := Lib.hid hnd
  have HKS := Lib.hid hkeys
  clear hrun hold hnd hkeys hent hkey h0 hd h1 h2 h5 h4
  go_enter Try.func50, Try.ntmps50
  go_wp2_with fail
  go_loopw [8] (fun _ wr => ∃ seen m, CopySt w wr gd gs es clock a b seen m) (fun _ wr => wr.rangeLeft gs w.heap.size)
  case atStart => exact ⟨#[], a, H0.out⟩
  case round =>
    obtain ⟨seen, m, hst⟩ := hrel
    have hleft : wr.rangeLeft gs w.heap.size = (leftOf es seen).size := by simp only [World.rangeLeft, hst.src, hst.iter]
    have HL := Lib.hid hleft
    clear hleft
    rcases run_next_at (P := Try.prog) wr 0 w.heap.size gs clock clock seen es clock hst.iter hst.src HOLD.out (Nat.le_refl _) with ⟨hz, hnx⟩ | ⟨e, he, w1, hw1, hnx⟩
    · have hnx2 : ∀ t, (NextS (.pointer (some ⟨w.heap.size, 0, none⟩)) false t).run Try.prog wr = .ok (.tuple #[.bool false]) wr := fun t => hnx
      have hfin : m = mcopy a b := by
        refine mext hst.dst.rising (mcopy_rising hdr b) fun i => ?_
        rw [mget_copy hdr hsr, hst.copied i]
        cases hv : mget b i with
        | none =>
          rw [if_neg]
          · rfl
          · rintro ⟨e, he, hk, _⟩
            obtain ⟨k, v, e1, _, e3, _⟩ := HENT.out e he
            rw [e1] at hk
            have := int_key hk
            subst this
            rw [e3] at hv; cases hv
        | some v =>
          obtain ⟨e, he, hk⟩ := HKEY.out i v hv
          rw [if_pos ⟨e, he, hk, all_seen es seen hz e he⟩]
          rfl
      have HF := Lib.hid (And.intro hst.dst hst.step)
      have HFIN := Lib.hid hfin
      clear hst hnx hfin
      go_wp2_with fail
      go_end0
      exact ⟨rfl, by rw [← HFIN.out]; exact HF.out.1, HF.out.2⟩
    · obtain ⟨hem, hes⟩ := mem_left he
      obtain ⟨k, v, e1, e2, e3, e4⟩ := HENT.out e hem
      have hnx2 : ∀ t, (NextS (.pointer (some ⟨w.heap.size, 0, none⟩)) false t).run Try.prog wr = .ok (.tuple #[.bool true, .int .i64 (k : Int), secV v]) (objSet w1 w.heap.size (.mapIter (some gs) clock (seen.push e.born) clock)) := fun t => by rw [← e1, ← e2]; exact hnx
      obtain ⟨w2, hw2⟩ : ∃ w2, w2 = objSet w1 w.heap.size (.mapIter (some gs) clock (seen.push e.born) clock) := ⟨_, rfl⟩
      rw [← hw2] at hnx2
      have hr1 : w1.heap[w.heap.size]? = some (.mapIter (some gs) clock seen clock) := by rcases hw1 with rfl | rfl <;> exact hst.iter
      have hs1 : w1.heap[gs]? = some (.map es clock) := by rcases hw1 with rfl | rfl <;> exact hst.src
      have hd1 : MapAt w1 gd m := by rcases hw1 with rfl | rfl <;> exact hst.dst.kept rfl
      have hp1 : Step w w1 (fun k => k = gd) (fun k => k = gd) := by
        rcases hw1 with rfl | rfl
        · exact hst.step
        · exact hst.step.drew
      have hset := heap_set (o' := Obj.mapIter (some gs) clock (seen.push e.born) clock) hr1
      have hr2 : w2.heap[w.heap.size]? = some (.mapIter (some gs) clock (seen.push e.born) clock) := by rw [hw2]; exact hset.1
      have hs2 : w2.heap[gs]? = some (.map es clock) := by rw [hw2]; exact (hset.2 gs (by omega)).trans hs1
      have hd2 : MapAt w2 gd m := by rw [hw2]; exact hd1.kept (objSet_far (by omega) _)
      have hp2 : Step w w2 (fun k => k = gd) (fun k => k = gd) := by rw [hw2]; exact hp1.objSet (.inr (Nat.le_refl _)) _
      have hen := run_entry_at (P := Try.prog) w2 w.heap.size gs clock seen es clock e hr2 hs2 hem HND.out
      have hen2 : (EntryS (.pointer (some ⟨w.heap.size, 0, none⟩))).run Try.prog w2 = .ok (.tuple #[.int .i64 (k : Int), secV v]) w2 := by rw [← e1, ← e2]; exact hen
      have hstv : (StoreS 80 (.pointer (some ⟨w2.heap.size, 0, none⟩)) (secV v)).run Try.prog (w2.alloc (.cells (zbytes 128) 80)) = .ok () (w2.alloc (.cells (v.map bv).toArray 80)) := StoreS.new (P := Try.prog) (ty := 80) (t := 80) (c := zbytes 128) (x := (v.map bv).toArray) (by simp only [List.size_toArray, List.length_map, e4]; exact i_wsector) (by simp [zbytes_size, e4]) (fun x hx => bvs_one v x (by simpa using hx)) w2
      obtain ⟨w3, hw3⟩ : ∃ w3, w3 = w2.alloc (.cells (v.map bv).toArray 80) := ⟨_, rfl⟩
      have hB3 : Blk w3 w2.heap.size 80 (v.map bv).toArray := by rw [hw3]; exact Blk.new _ _ _
      have hld : (LoadS 80 (.pointer (some ⟨w2.heap.size, 0, none⟩))).run Try.prog w3 = .ok (secV v) w3 := by
        have := LoadS.of_blk (P := Try.prog) (o := 0) (n := 128) hB3 u_wsector rfl i_wsector (by simp [e4])
        rwa [show (v.map bv).toArray.extract 0 (0 + 128) = (v.map bv).toArray by apply Array.ext'; simp only [Array.toList_extract, List.extract_eq_take_drop, List.drop_zero]; rw [List.take_of_length_le (by simp [e4])]] at this
      have hd3 : MapAt w3 gd m := by rw [hw3]; exact hd2.kept (Below.heap_alloc w2 _ gd hd2.lt)
      obtain ⟨o, hmr, hmm⟩ := MapSetS.ok hd3 k v
      have hsz2 : w.heap.size < w2.heap.size := (Array.getElem?_eq_some_iff.1 hr2).1
      have hnew : CopySt w (objSet w3 gd o) gd gs es clock a b (seen.push e.born) (mput m k v) := by
        refine ⟨?_, ?_, hmm, fun i => ?_, ?_⟩
        · rw [objSet_far (by omega), hw3, Below.heap_alloc w2 _ _ hsz2]; exact hr2
        · rw [objSet_far (Ne.symm hne), hw3, Below.heap_alloc w2 _ _ (Array.getElem?_eq_some_iff.1 hs2).1]; exact hs2
        · rw [mget_put hd2.rising]
          by_cases hik : i = k
          · subst hik
            rw [if_pos rfl, if_pos ⟨e, hem, e1, by rw [contains_push]; simp⟩, e3]
          · rw [if_neg hik, hst.copied i]
            by_cases hsk : seenKey es seen i
            · obtain ⟨e', he', hk', hb'⟩ := hsk
              rw [if_pos ⟨e', he', hk', hb'⟩, if_pos ⟨e', he', hk', by rw [contains_push, hb']; rfl⟩]
            · rw [if_neg hsk, if_neg]
              rintro ⟨e', he', hk', hb'⟩
              rw [contains_push, Bool.or_eq_true] at hb'
              rcases hb' with hb' | hb'
              · exact hsk ⟨e', he', hk', hb'⟩
              · have hbe : e'.born = e.born := by simpa using hb'
                have hee : e' = e := born_inj HND.out he' hem hbe
                subst hee
                rw [e1] at hk'
                exact hik (int_key hk').symm
        · rw [hw3] at *
          exact (hp2.alloc _).objSet (.inl rfl) o
      have hlt := left_shrinks es seen e he
      have hleft2 : (objSet w3 gd o).rangeLeft gs w.heap.size = (leftOf es (seen.push e.born)).size := by simp only [World.rangeLeft, hnew.src, hnew.iter]
      have HNEW := Lib.hid hnew
      have HLT := Lib.hid (show (objSet w3 gd o).rangeLeft gs w.heap.size < wr.rangeLeft gs w.heap.size by rw [hleft2, HL.out]; exact hlt)
      rw [hw3] at hld hmr
      have HW3 := Lib.hid hw3
      clear hst hnx hw2 hr1 hs1 hd1 hp1 hset hr2 hs2 hd2 hp2 hen hw3 hB3 hd3 hmm hnew hlt hleft2 hw1 hem hes he e1 e2
      rw [← HW3.out] at hmr
      have hmr2 := hmr
      rw [HW3.out] at hmr2
      generalize hw4 : objSet w3 gd o = w4 at *
      have hmr3 : (MapSetS 75 (.map (some gd)) (.int .i64 (k : Int)) (secV v)).run Try.prog (w2.alloc (.cells (v.map bv).toArray 80)) = .ok () w4 := by rw [← HW3.out]; exact hmr
      clear hmr hmr2 hw4
      go_wp2_with fail
      exact ⟨⟨_, _, HNEW.out⟩, HLT.out⟩
end
end Go.Proofs.Ytmhgahkainmbkaa
