/- The walk of tree.right: may an entry be? The walk of tree.Right: is a list a tree? The walk of tree.Bytes. append of a string onto bytes of the call's own; append at a walk by its run, of two types. -/
import Derived.Test.YtibndaianhlcaaaGreatDoorPart9
import Derived.Lib.QuietBelow
import Derived.BigQuiet
import Derived.Test.YtibndaianhlcaaaGreatDoorPart7
import Derived.Deep.RegionHeld3
import Derived.Lib.BufferOld
import Derived.Test.YtibndaianhlcaaaGreatDoorPart1
import Derived.Lib.AppendStr
namespace Go.Proofs.YtibndaianhlcaaaGreatDoor
open Go.RowKit Go.Shelf
set_option linter.unusedVariables false
set_option linter.unusedSimpArgs false

theorem results_bool {w : World} {fn : Func} {tmps : Array Value} {g : Addr} {x : Value} (h : fn.results = #[.cell 2 4]) (ht : tmps.getD 2 undef = .pointer (some g)) (hx : w.cell? g = some x) : (results fn tmps).run Tryz.prog w = .ok x w := by
  simp only [Array.getD_eq_getD_getElem?] at ht
  simp [results, h, ht, asAddr, loadVar, Tryz.isAgg4, hx, go_sem]
def evArr (e : EV) : Array Value := #[.string ⟨e.path.toArray⟩, .int .i64 e.kind, .slice e.A e.n e.c]
structure EntI (w : World) (e : EV) (pre : List Txt) (W : World) : Prop where
  names : pre.all nameB = true
  box : Blk W w.heap.size 35 (evArr e)
  res : Blk W (w.heap.size + 1) 4 #[.bool false]
  bel : Below w.heap.size w W
structure EntX (w : World) (e : EV) (W : World) : Prop where
  bad : entryB e.ent = false
  res : Blk W (w.heap.size + 1) 4 #[.bool false]
  bel : Below w.heap.size w W
theorem EntI.alloc {w W : World} {e : EV} {pre : List Txt} (h : EntI w e pre W) (o : Obj) : EntI w e pre (W.alloc o) := ⟨h.names, h.box.alloc _, h.res.alloc _, h.bel.alloc h.bel.size _⟩
theorem EntI.put {w W : World} {e : EV} {pre : List Txt} (h : EntI w e pre W) (o : Obj) : EntI w e pre (W.putObj (w.heap.size + 6) o) := ⟨h.names, blk_put h.box (by omega) _, blk_put h.res (by omega) _, below_put h.bel (by omega) _⟩
theorem EntI.set {w W : World} {e : EV} {pre : List Txt} (h : EntI w e pre W) (v : Value) : EntI w e pre (W.setCell ⟨w.heap.size + 2, 0, none⟩ v) :=
  ⟨h.names, h.box.far (by simp) _, h.res.far (by simp) _, h.bel.setCell (p := ⟨w.heap.size + 2, 0, none⟩) (by simp) _⟩
theorem EntI.drew {w W : World} {e : EV} {pre : List Txt} (h : EntI w e pre W) : EntI w e pre W.drew := ⟨h.names, h.box, h.res, h.bel.drew⟩
theorem EntX.put {w W : World} {e : EV} (h : EntX w e W) (o : Obj) : EntX w e (W.putObj (w.heap.size + 6) o) := ⟨h.bad, blk_put h.res (by omega) _, below_put h.bel (by omega) _⟩

theorem entryB_long {x : Ent} (h : 120 < x.path.length ∨ 2048 < x.data.length) : entryB x = false := by
  unfold entryB
  rw [decide_eq_false (by omega)]
  rfl
theorem entryB_deep {x : Ent} (h : 4 ≤ x.path.count 47) : entryB x = false := by
  unfold entryB
  rw [decide_eq_false (p := (splitS x.path).length ≤ 4) (by rw [splitS_length]; omega)]
  simp
theorem entryB_name {x : Ent} {t : Txt} (ht : t ∈ splitS x.path) (h : nameB t = false) : entryB x = false := by
  unfold entryB
  rw [show (splitS x.path).all nameB = false from List.all_eq_false.2 ⟨t, ht, by rw [h]; decide⟩]
  simp
theorem entryB_end {x : Ent} (h1 : x.path.length ≤ 120) (h2 : x.data.length ≤ 2048) (h3 : x.path.count 47 < 4) (h4 : (splitS x.path).all nameB = true) : entryB x = if x.kind = 3 then (pathNames x.data).isSome else decide (x.kind = 1) := by
  unfold entryB
  rw [decide_eq_true (show x.path.length ≤ 120 ∧ x.data.length ≤ 2048 from ⟨h1, h2⟩), decide_eq_true (p := (splitS x.path).length ≤ 4) (by rw [splitS_length]; omega), h4]
  simp

def EntPost (w : World) (e : EV) : Ending → World → Prop := fun v w' => v = .returned (.bool (entryB e.ent)) ∧ Below w.heap.size w w'
section
attribute [local go_sem] Oper.semAt_some
set_option maxRecDepth 100000 in
set_option maxHeartbeats 1000000 in
theorem entry_any {w : World} {B : Nat} (e : EV) (hd : Slc w B 1 e.A e.n e.c (e.data.map bv)) (hB : B ≤ w.heap.size) (hp : e.path.length ≤ 1000000000) :
    Calls Tryz.prog 80 #[.agg (evArr e)] w (EntPost w e) := by
  obtain ⟨path, kind, data, A, n, c⟩ := e
  simp only at hd hp
  have hdl : data.length = n := by have := hd.len; simpa using this
  obtain ⟨W2, hW2⟩ : ∃ W2, W2 = (w.alloc (.cells #[.string ⟨path.toArray⟩, .int .i64 kind, .slice A n c] 35)).alloc (.cells #[.bool false] 4) := ⟨_, rfl⟩
  have hb2 : Below w.heap.size w W2 := by rw [hW2]; exact ((Below.refl _ w).alloc (Nat.le_refl _) _).alloc (by simp) _
  have hbox : Blk W2 w.heap.size 35 #[.string ⟨path.toArray⟩, .int .i64 kind, .slice A n c] := by rw [hW2]; exact (Blk.new _ _ _).alloc _
  have hres : Blk W2 (w.heap.size + 1) 4 #[.bool false] := by
    rw [hW2]
    have := Blk.new (w.alloc (.cells #[.string ⟨path.toArray⟩, .int .i64 kind, .slice A n c] 35)) 4 #[.bool false]
    rwa [World.size_alloc] at this
  have hz2 : W2.heap.size = w.heap.size + 2 := by rw [hW2]; simp
  have hct := fun W => Tryz.strings_Count_one ⟨path.toArray⟩ 47 W
  have hcd : (ByteArray.mk path.toArray).data.toList = path := rfl
  rw [hcd] at hct
  unfold evArr
  by_cases hlong : 120 < path.length ∨ 2048 < data.length
  · have HG := Lib.hid (entryB_long (x := ⟨path, kind, data⟩) hlong)
    have hq : 120 < path.length ∨ (¬ 120 < path.length ∧ 2048 < n) := by omega
    clear hlong hdl hd
    rcases hq with h0 | ⟨h0, h1⟩
    all_goals
      go_enter Tryz.func80, Tryz.ntmps80
      go_wp2_with (fail)
      rw [← hW2]
      refine bodyPost_ret (results_bool (g := ⟨w.heap.size + 1, 0, none⟩) rfl rfl (hres.cell 0)) rfl ⟨by show _ = Ending.returned (.bool (entryB ⟨path, kind, data⟩)); rw [HG.out]; rfl, hb2⟩
  have hl1 : ¬ 120 < path.length := by omega
  have hl2 : ¬ 2048 < n := by omega
  by_cases hdeep : 4 ≤ path.count 47
  · have HG := Lib.hid (entryB_deep (x := ⟨path, kind, data⟩) hdeep)
    have hd4 : (4 : Int) ≤ (Lib.countByte path 47 : Nat) := by unfold Lib.countByte; omega
    clear hlong hdl hd hdeep
    go_enter Tryz.func80, Tryz.ntmps80
    go_wp2_with (go_at_call 105; refine (hct _).mono ?_; clear hct; rintro e w' ⟨rfl, hw⟩; obtain rfl := hw.symm)
    rw [← hW2]
    refine bodyPost_ret (results_bool (g := ⟨w.heap.size + 1, 0, none⟩) rfl rfl (hres.cell 0)) rfl ⟨by show _ = Ending.returned (.bool (entryB ⟨path, kind, data⟩)); rw [HG.out]; rfl, hb2⟩
  have hd4 : ¬ (4 : Int) ≤ (Lib.countByte path 47 : Nat) := by unfold Lib.countByte; omega
  have hpl : path.length ≤ 120 := by omega
  have hnl : data.length ≤ 2048 := by omega
  have HEND := Lib.hid (fun h4 => entryB_end (x := ⟨path, kind, data⟩) hpl hnl (by show path.count 47 < 4; omega) h4)
  have HBADN := Lib.hid (fun (t : Txt) ht h => entryB_name (x := ⟨path, kind, data⟩) (t := t) ht h)
  refine callsIn_wide.1 (callsIn_of_wp_marks (F := Fence.wide) (n := 8) Tryz.func80 rfl trivial (wpIn_wide.2 ?_))
  obtain ⟨fn, hfn⟩ : ∃ fn, fn = Tryz.f80 := ⟨_, rfl⟩
  obtain ⟨Q, hQ⟩ : ∃ Q, Q = bodyPostM Fence.wide 8 Tryz.prog Tryz.f80 (EntPost w ⟨path, kind, data, A, n, c⟩) := ⟨_, rfl⟩
  have hQ1 : ∀ (t : Array Value) (w9 : World) (D2 : Nat), w9.heap[D2]? = some (.deferred (some [])) → (∃ v, (results Tryz.f80 t).run Tryz.prog (w9.putObj D2 (.deferred none)) = .ok v (w9.putObj D2 (.deferred none)) ∧ EntPost w ⟨path, kind, data, A, n, c⟩ (.returned v) (w9.putObj D2 (.deferred none))) → Q .ret ⟨t, [{ target := .collected D2, args := #[] }]⟩ w9 := fun t w9 D2 hk hv => by
    rw [hQ]; exact ⟨by simp, .inl ⟨_, _, rfl, run_takeDeferred hk, hv⟩⟩
  have HQ1 := Lib.hid hQ1
  rw [← hQ]
  clear hQ1 hQ hfn hlong hdeep
  simp only [Tryz.ntmps80, List.size_toArray, List.length_cons, List.length_nil, Nat.reduceAdd, Nat.reduceSub, Array.replicate_succ, Array.replicate_zero, List.push_toArray, List.append_toArray, List.nil_append, List.cons_append]
  go_wp2_with (first
    | (go_at_call 105; refine (hct _).mono ?_; clear hct; rintro e w' ⟨rfl, hw⟩; obtain rfl := hw.symm)
    | (go_at_call 65; refine (split_any _ _).mono ?_; rintro e w5 ⟨rfl, rfl⟩))
  rw [← hW2]
  obtain ⟨w5, hw5⟩ : ∃ w5, w5 = splitW W2 ⟨path.toArray⟩ := ⟨_, rfl⟩
  rw [← hw5]
  obtain ⟨s1, s2, s3, sb, sz⟩ := splitW_facts W2 ⟨path.toArray⟩
  rw [← hw5] at s1 s2 s3 sb sz
  rw [hz2] at s1 s2 s3 sz
  have hI0 : EntI w ⟨path, kind, data, A, n, c⟩ [] w5 := ⟨rfl, hbox.below sb hbox.lt, hres.below sb hres.lt, hb2.trans (sb.mono hb2.size)⟩
  have HZ5 := Lib.hid (show w5.heap.size = w.heap.size + 5 by omega)
  have HI0 := Lib.hid hI0
  have S1 := Lib.hid s1
  have S2 := Lib.hid s2
  have S3 := Lib.hid s3
  have HD := Lib.hid hd
  have HPL := Lib.hid hpl
  have HDL := Lib.hid hdl
  have HNL := Lib.hid hnl
  clear hbox hres hI0 s1 s2 s3 sb sz hb2 hd hw5 hW2 hpl hdl hnl
  refine (wpIn_wide (n := 8)).1 ?_
  refine range_cell (α := Txt) rfl (by omega) (gf := 121) (lb := #[.pointer (some ⟨w.heap.size + 1 + 1 + 1, 0, none⟩), .pointer (some ⟨w.heap.size + 1 + 1, 0, none⟩), .pointer (some ⟨w.heap.size + 1 + 1 + 2, 0, none⟩)]) rfl trivial (enters_of Tryz.func121 (by kernel_rfl) rfl)
    (enc := fun x : Txt => #[.string ⟨x.toArray⟩]) (Kp := Kp3 (w.heap.size + 2) (w.heap.size + 3) (w.heap.size + 4)) (S := fun xs => xs = splitS path) (Sp := fun pre => pre <+: splitS path) (bs := w.heap.size + 2)
    (fun W hW => splitseq_in 7 (by omega) (w.heap.size + 2) (w.heap.size + 3) (w.heap.size + 4) (by omega) (by omega) path (by have := HPL.out; omega) W (S1.out.below hW S1.out.lt) (S2.out.below hW S2.out.lt) (S3.out.below hW S3.out.lt))
    (by have := HZ5.out; omega) (fun h k => h.trans k) (fun A o => ⟨World.putObj_heap_other (by have := HZ5.out; omega), World.putObj_heap_other (by have := HZ5.out; omega), World.putObj_heap_other (by have := HZ5.out; omega)⟩) (fun _ => rfl)
    (fun pre W => EntI w ⟨path, kind, data, A, n, c⟩ pre W) (fun _ W => EntX w ⟨path, kind, data, A, n, c⟩ W) (fun s A o h => h.alloc o) (fun s A o _ h => by rw [HZ5.out]; exact h.put o) (fun s A v h => h.set v) (fun s A h => h.drew) (fun s A o _ h => by rw [HZ5.out]; exact h.put o) HI0.out
    ?act ?assign ?body ?done ?stop
  case assign =>
    intro l x W K hK
    gi_wp2
    exact hK
  case body =>
    intro l pre x W hI hS hlt
    have hxm : x ∈ splitS path := hS.subset (by simp)
    have hxl : x.length ≤ 120 := Nat.le_trans (splitS_mem_length path x hxm) HPL.out
    have hnm := name_any ⟨x.toArray⟩ W (by show x.length ≤ maxLen; unfold maxLen; omega)
    have hxd : (ByteArray.mk x.toArray).data.toList = x := rfl
    rw [hxd] at hnm
    cases hnx : nameB x with
    | false =>
      rw [hnx] at hnm
      gi_wp2_with (refine ⟨trivial, ?_⟩; gi_at_call 39; refine (CallsIn.inRound l (callsIn_wide.2 hnm)).mono ?_; clear hnm; rintro e6 w6 ⟨rfl, hb6⟩; have r3 := hI.res.below hb6 hI.res.lt; have u3 := r3.cell 0; have v3 := r3.frozen 0; simp only [List.getElem?_toArray, List.getElem?_cons_zero] at u3)
      exact ⟨(rec_of hb6 hlt).set (by have := HZ5.out; simp; omega) (by have := HZ5.out; simp; omega) _, ⟨HBADN.out x hxm hnx, r3.set_ 0 _, (hI.bel.trans (hb6.mono hI.bel.size)).setCell (p := ⟨w.heap.size + 1, 0, none⟩) (by simp) _⟩⟩
    | true =>
      rw [hnx] at hnm
      gi_wp2_with (refine ⟨trivial, ?_⟩; gi_at_call 39; refine (CallsIn.inRound l (callsIn_wide.2 hnm)).mono ?_; clear hnm; rintro e6 w6 ⟨rfl, hb6⟩)
      exact ⟨rec_of hb6 hlt, kp3_of hb6 (by have := HZ5.out; omega) (by have := HZ5.out; omega) (by have := HZ5.out; omega), ⟨by rw [List.all_append, hI.names]; simp [hnx], hI.box.below hb6 hI.box.lt, hI.res.below hb6 hI.res.lt, hI.bel.trans (hb6.mono hI.bel.size)⟩⟩
  case done =>
    intro xs W hS hI hlt hK
    subst hS
    have HG := Lib.hid (HEND.out hI.names)
    have hzD := HZ5.out
    have u0 := hI.box.cell 0
    have u1 := hI.box.cell 1
    have u2 := hI.box.cell 2
    have u3 := hI.res.cell 0
    have v3 := hI.res.frozen 0
    simp only [evArr, List.getElem?_toArray, List.getElem?_cons_zero, List.getElem?_cons_succ] at u0 u1 u2 u3
    have hbd := HD.out.below (hI.bel.mono hB)
    have hcv := convert_bytes (P := Tryz.prog) Tryz.underlying33 Tryz.underlying5 hbd 9 Tryz.underlying9
    have hpa := path_any data (by have := HDL.out; have h1 := hbd.le; have h2 := hbd.cmax; have h3 := HNL.out; omega) W
    by_cases h3 : kind = 3
    · have HR := Lib.hid (HG.out.trans (if_pos h3))
      have hk3 : (kind == 3) = true := by simpa using h3
      clear h3 HG hbd
      go_wp2_with (go_at_call 106; refine hpa.mono ?_; clear hpa; rintro e6 w6 ⟨A6, n6, c6, rfl, ho6, hb6⟩; have r3 := hI.res.below hb6 hI.res.lt; have u4 := r3.cell 0; have v4 := r3.frozen 0; simp only [List.getElem?_toArray, List.getElem?_cons_zero] at u4)
      have hK9 : (w6.setCell ⟨w.heap.size + 1, 0, none⟩ (.bool (pathNames data).isSome)).heap[w.heap.size + 5]? = some (.deferred (some [])) :=
        (Below.heap_setCell _ _ _ _ (by simp only; omega)).trans ((hb6.block _ (by omega)).trans (hzD ▸ hK))
      refine HQ1.out _ _ _ hK9 ?_
      exact ⟨_, results_bool (g := ⟨w.heap.size + 1, 0, none⟩) rfl rfl ((blk_put (r3.set_ 0 _) (by omega) _).cell 0), by show Ending.returned (.bool (pathNames data).isSome) = Ending.returned (.bool (entryB ⟨path, kind, data⟩)); rw [HR.out], below_put ((hI.bel.trans (hb6.mono hI.bel.size)).setCell (p := ⟨w.heap.size + 1, 0, none⟩) (by simp) _) (by omega) _⟩
    · have HR := Lib.hid (HG.out.trans (if_neg h3))
      have hk3 : (kind == 3) = false := by simpa using h3
      clear h3 HG hbd hcv hpa
      go_wp2
      have hK9 : (W.setCell ⟨w.heap.size + 1, 0, none⟩ (.bool (kind == 1))).heap[w5.heap.size]? = some (.deferred (some [])) :=
        (Below.heap_setCell _ _ _ _ (by simp only; omega)).trans hK
      have hkd : (kind == 1) = decide (kind = 1) := by rw [Bool.eq_iff_iff]; simp
      refine HQ1.out _ _ _ hK9 ?_
      exact ⟨_, results_bool (g := ⟨w.heap.size + 1, 0, none⟩) rfl rfl ((blk_put (hI.res.set_ 0 _) (by omega) _).cell 0), by show Ending.returned (.bool (kind == 1)) = Ending.returned (.bool (entryB ⟨path, kind, data⟩)); rw [HR.out, hkd], below_put (hI.bel.setCell (p := ⟨w.heap.size + 1, 0, none⟩) (by simp) _) (by omega) _⟩
  case stop =>
    intro pre W hS hX hlt hK
    have hzD := HZ5.out
    have HG := Lib.hid hX.bad
    gi_wp2
    refine HQ1.out _ _ _ hK ?_
    exact ⟨_, results_bool (g := ⟨w.heap.size + 1, 0, none⟩) rfl rfl ((blk_put hX.res (by omega) _).cell 0), by rw [HG.out]; rfl, below_put hX.bel (by omega) _⟩
end
end Go.Proofs.YtibndaianhlcaaaGreatDoor
namespace Go.Proofs.YtibndaianhlcaaaGreatDoor
open Go.RowKit Go.Shelf
open Go.Sort (grow grow_empty)
set_option linter.unusedVariables false
set_option linter.unusedSimpArgs false

theorem bytesLess_txt : ∀ a b : Txt, Op.bytesLess a b = decide (a < b)
  | a, [] => by cases a <;> simp [Op.bytesLess]
  | [], b :: l => by simp [Op.bytesLess]
  | x :: a, y :: b => by
    rw [Op.bytesLess, bytesLess_txt a b, Bool.eq_iff_iff]
    simp [List.cons_lt_cons_iff]
theorem less_str (a b : Txt) : Op.bytesLess (ByteArray.mk a.toArray).toList (ByteArray.mk b.toArray).toList = decide (a < b) := by
  rw [Go.ByteArray.toList_eq, Go.ByteArray.toList_eq]
  exact bytesLess_txt a b
theorem fits_entry {l : List Ent} {i : Nat} {x : Ent} (h : entryB x = false) : fitsB l i x = false := by unfold fitsB; rw [h]; rfl
theorem fits_at {l : List Ent} {i k : Nat} {x : Ent} (hk : k < i) (hl : k < l.length) (h : aheadB l[k].path x.path = false) : fitsB l i x = false := by
  unfold fitsB
  rw [show ((l.take i).all fun y => aheadB y.path x.path) = false from List.all_eq_false.2 ⟨l[k], List.mem_iff_getElem?.2 ⟨k, by rw [List.getElem?_take, if_pos hk, List.getElem?_eq_getElem hl]⟩, by rw [h]; decide⟩, Bool.and_false]
theorem fits_last {l : List Ent} {i : Nat} {x : Ent} (h0 : 0 < i) (hl : i - 1 < l.length) (h : ¬ l[i - 1].path < x.path) : fitsB l i x = false := fits_at (k := i - 1) (by omega) hl (by unfold aheadB; rw [decide_eq_false h]; rfl)
theorem fits_pre {l : List Ent} {i k : Nat} {x : Ent} (hk : k < i) (hl : k < l.length) (h : (l[k].path ++ [47]).isPrefixOf x.path = true) : fitsB l i x = false := fits_at hk hl (by unfold aheadB; rw [h]; simp)
theorem fits_ok {l : List Ent} {i : Nat} {x : Ent} (hi : i ≤ l.length) (he : entryB x = true) (hr : rightTo l i = true) (h0 : ∀ (h : 0 < i) (hl : i - 1 < l.length), l[i - 1].path < x.path) (hp : ∀ k (hk : k < l.length), k < i → (l[k].path ++ [47]).isPrefixOf x.path = false) : fitsB l i x = true := by
  unfold fitsB
  rw [he, Bool.true_and]
  refine List.all_eq_true.2 fun y hy => ?_
  obtain ⟨k, hk⟩ := List.mem_iff_getElem?.1 hy
  rw [List.getElem?_take] at hk
  split at hk
  · rename_i hki
    obtain ⟨hkl, rfl⟩ := List.getElem?_eq_some_iff.1 hk
    unfold aheadB
    rw [hp k hkl hki, Bool.and_eq_true]
    refine ⟨decide_eq_true ?_, rfl⟩
    have hlast := h0 (by omega) (by omega)
    by_cases hq : k = i - 1
    · subst hq; exact hlast
    · exact txt_trans (rightTo_lt hr k (i - 1) hkl (by omega) (by omega) (by omega)) hlast
  · cases hk
theorem pre_str (x y : Txt) (W : World) : Calls Tryz.prog 81 #[.string ⟨x.toArray⟩, .string (⟨y.toArray⟩ ++ ⟨#[47]⟩)] W fun e w' => e = .returned (.bool ((y ++ [47]).isPrefixOf x)) ∧ w' = W := by
  have h := Tryz.strings_HasPrefix ⟨x.toArray⟩ (⟨y.toArray⟩ ++ ⟨#[47]⟩) W
  have e1 : ((⟨y.toArray⟩ : ByteArray) ++ ⟨#[47]⟩).data.toList = y ++ [47] := by simp
  rw [e1] at h
  exact h
theorem ents_get {es : List EV} {k : Nat} (h : k < es.length) (h' : k < (es.map EV.ent).length) : (es.map EV.ent)[k] = es[k].ent := by simp

set_option maxRecDepth 100000 in
set_option maxHeartbeats 1000000 in
theorem right_any {w : World} {B : Nat} {A : Option Addr} {n c : Nat} {es : List EV} (h : EntsAt w B A n c es) (hB : B ≤ w.heap.size) (hp : ∀ e ∈ es, e.path.length ≤ 1000000000) :
    Calls Tryz.prog 38 #[.slice A n c] w fun e w' => e = .returned (.bool (rightB (es.map EV.ent))) ∧ Below w.heap.size w w' := by
  obtain ⟨l, hl⟩ : ∃ l, l = es.map EV.ent := ⟨_, rfl⟩
  have hll : l.length = n := by rw [hl, List.length_map, h.len]
  rw [← hl]
  have hnc := h.slc.le
  have hcm := h.slc.cmax
  have hn62 : n ≤ 9223372036854775807 := by unfold maxLen at hcm; omega
  have hc62 : c ≤ 9223372036854775807 := by unfold maxLen at hcm; omega
  by_cases h24 : 24 < n
  · have HG := Lib.hid (show rightB l = false by unfold rightB; rw [decide_eq_false (by omega)]; rfl)
    clear h hl hp hll
    go_enter Tryz.func38, Tryz.ntmps38
    go_wp2
    go_ret
    exact ⟨by rw [HG.out]; rfl, Below.refl _ _⟩
  have hn24 : n ≤ 24 := by omega
  have HG := Lib.hid (show rightB l = rightTo l l.length by unfold rightB; rw [decide_eq_true (by omega)]; rfl)
  have HBAD := Lib.hid (fun (k : Nat) (hk : k < l.length) (h : fitsB l k l[k] = false) => rightB_false (l := l) hk (fun _ => h))
  have H := Lib.hid h
  have HP := Lib.hid hp
  have HL := Lib.hid hl
  have HLL := Lib.hid hll
  clear h hp hl hll
  go_enter Tryz.func38, Tryz.ntmps38
  go_wp2_with (fail)
  go_loopw [12] (fun i wr => ∃ (k : Nat), k ≤ n ∧ i = .int .i64 (k : Int) ∧ Aside (rightTo l k = true) ∧ Aside (Below w.heap.size w wr)) (fun i _ => n - (intOf i).toNat)
  case atStart => exact ⟨0, Nat.zero_le _, rfl, rightTo_zero l, Below.refl _ _⟩
  case round =>
    obtain ⟨k, hk, rfl, hr, hb⟩ := hrel
    by_cases hlt : k < n
    · obtain ⟨b, off, rfl, hbB, hkl, c0, c1, c2, hS⟩ := (H.out.below (hb.out.mono hB)).at_ hlt
      have hkl' : k < l.length := by rw [HLL.out]; exact hlt
      have HLK := Lib.hid (show l[k] = es[k].ent by have := HL.out; subst this; exact ents_get hkl hkl')
      have hpl := HP.out _ (List.getElem_mem hkl)
      have HBK := Lib.hid (HBAD.out k hkl')
      rw [HLK.out] at HBK
      generalize es[k] = e at *
      have hbb : b < wr.heap.size := Nat.lt_of_lt_of_le hbB (Nat.le_trans hB hb.out.size)
      obtain ⟨W1, hW1⟩ : ∃ W1, W1 = wr.alloc (.cells #[.string ⟨e.path.toArray⟩, .int .i64 e.kind, .slice e.A e.n e.c] 35) := ⟨_, rfl⟩
      have hbw : Below wr.heap.size wr W1 := by rw [hW1]; exact (Below.refl _ _).alloc (Nat.le_refl _) _
      have hbox : Blk W1 wr.heap.size 35 #[.string ⟨e.path.toArray⟩, .int .i64 e.kind, .slice e.A e.n e.c] := by rw [hW1]; exact Blk.new _ _ _
      have hz1 : W1.heap.size = wr.heap.size + 1 := by rw [hW1]; simp
      have HE := Lib.hid (fun (W : World) (hw : Below W1.heap.size W1 W) => entry_any (w := W) (B := B) e ((hS.below (hbw.mono (Nat.le_trans hB hb.out.size))).below (hw.mono (by rw [hz1]; have := hb.out.size; omega))) (by have := hw.size; have := hb.out.size; omega) hpl)
      have HK := Lib.hid (fun (W : World) (hw : Below W1.heap.size W1 W) => show W.cell? ⟨wr.heap.size, 0, none⟩ = some (.string ⟨e.path.toArray⟩) ∧ W.cell? ⟨wr.heap.size, 1, none⟩ = some (.int .i64 e.kind) ∧ W.cell? ⟨wr.heap.size, 2, none⟩ = some (.slice e.A e.n e.c) from ⟨(hbox.below hw hbox.lt).cell 0, (hbox.below hw hbox.lt).cell 1, (hbox.below hw hbox.lt).cell 2⟩)
      have hdr : Below W1.heap.size W1 W1.drew := (Below.refl _ W1).drew
      obtain ⟨k0, k1, k2⟩ := HK.out W1 (Below.refl _ W1)
      have HW1 := Lib.hid hW1
      have HB1' := Lib.hid hbw
      have HSZ := Lib.hid (show w.heap.size ≤ W1.heap.size by have := hb.out.size; omega)
      have HB1 := Lib.hid (show Below w.heap.size wr W1 from hbw.mono hb.out.size)
      have hr0 := cell_regrown k0
      have hr1 := cell_regrown k1
      have hr2 := cell_regrown k2
      clear hbw hbox hS hpl hW1
      have HC0 : ∀ d os, Calls Tryz.prog 80 #[.agg (evArr e)] (grow (redrawn W1 d) os) fun v w'' => v = .returned (.bool (entryB e.ent)) ∧ ∃ p : Regrown, w'' = grow (redrawn W1 p.d) p.os := fun d os => Calls.regrown_of ((HE.out _ (below_regrown W1 d os)).mono fun v w' h => ⟨h.1, h.2⟩)
      cases hev : entryB e.ent with
      | false =>
        have HR := Lib.hid (HBK.out (fits_entry hev))
        rw [hev] at HC0
        have HC := Lib.hid HC0
        clear HC0
        go_wp2_with (fail)
        rw [← HW1.out]
        clear HW1
        refine wp_region_quiet_below (by kernel_rfl) (by kernel_rfl) ?_
        repeat (any_goals (first | go_big_quiet_step ((go_at_call 80; exact HC.out _ _)) | quiet_step ((go_at_call 80; exact HC.out _ _))))
        refine wpQuiet_nil ?_
        intro _ hw'
        obtain ⟨⟨dq, osq⟩, hw''⟩ := hw'
        subst hw''
        go_wp2
        go_ret
        exact ⟨by rw [HR.out]; rfl, hb.out.trans (HB1.out.trans ((below_regrown _ dq osq).mono (by have := hb.out.size; omega)))⟩
      | true =>
        rw [hev] at HC0
        have HC := Lib.hid HC0
        clear HC0
        have HFIT := Lib.hid (fun h0 hp => (rightTo_succ l k hkl').trans (by rw [HLK.out, fits_ok (x := e.ent) (Nat.le_of_lt hkl') hev hr.out h0 hp, hr.out]))
        have HBP := Lib.hid (fun (j : Nat) (hj : j < l.length) (hjk : j < k) h => HBK.out (fits_pre (k := j) hjk hj h))
        by_cases hk0 : 0 < k
        focus
          obtain ⟨m, hm⟩ : ∃ m, k = m + 1 := ⟨k - 1, by omega⟩
          obtain ⟨b', off', hA, _, hml, d0, _, _, _⟩ := (H.out.below (hb.out.mono hB)).at_ (k := m) (by omega)
          injection hA with hA
          injection hA with e1 e2
          subst e1 e2
          have hml' : m < l.length := by rw [HLL.out]; omega
          have hlm : l[m] = es[m].ent := by have := HL.out; subst this; exact ents_get hml hml'
          have HPV := Lib.hid hlm
          have hd0 := cell_regrown ((HB1'.out.cell (p := ⟨b, off + m * 3, none⟩) hbb).trans d0)
          generalize es[m] = pe at *
          have hwm : IntKind.i64.wrap ((k : Int) - 1) = (m : Int) := by rw [IntWalk.i64_in _ (by omega)]; omega
          have hmn : m < n := by omega
          have h2 : k - 1 = m := by omega
          have hcmp := less_str pe.path e.path
          have hcmp2 := bytesLess_txt pe.path e.path
          by_cases hlp : pe.path < e.path
          rotate_left
          focus
            rw [decide_eq_false hlp] at hcmp hcmp2
            have HR := Lib.hid (HBK.out (fits_last (l := l) hk0 (by omega) (by simp only [h2, HPV.out]; exact hlp)))
            clear d0 hlp hm h2
            go_wp2_with (fail)
            rw [← HW1.out]
            clear HW1
            refine wp_region_quiet_below (by kernel_rfl) (by kernel_rfl) ?_
            repeat (any_goals (first | go_big_quiet_step ((go_at_call 80; exact HC.out _ _)) | quiet_step ((go_at_call 80; exact HC.out _ _))))
            refine wpQuiet_nil ?_
            intro _ hw'
            obtain ⟨⟨dq, osq⟩, hw''⟩ := hw'
            subst hw''
            go_wp2
            go_ret
            exact ⟨by rw [HR.out]; rfl, hb.out.trans (HB1.out.trans ((below_regrown _ dq osq).mono (by have := hb.out.size; omega)))⟩
          rw [decide_eq_true hlp] at hcmp hcmp2
          replace HFIT := Lib.hid (HFIT.out (fun _ hl' => by simp only [h2, HPV.out]; exact hlp))
          clear d0 hlp hm h2
        rotate_left
        focus
          replace HFIT := Lib.hid (HFIT.out (fun h _ => absurd h hk0))
          have hk1 : decide (0 < k) = false := decide_eq_false hk0
          have hk2 : decide ((0 : Int) < (k : Int)) = false := decide_eq_false (by omega)
        all_goals
          go_wp2_with (fail)
          rw [← HW1.out]
          clear HW1
          refine wp_region_quiet_below (by kernel_rfl) (by kernel_rfl) ?_
          repeat (any_goals (first | go_big_quiet_step ((go_at_call 80; exact HC.out _ _)) | quiet_step ((go_at_call 80; exact HC.out _ _))))
          refine wpQuiet_nil ?_
          intro _ hw'
          obtain ⟨⟨dq, osq⟩, hw''⟩ := hw'
          subst hw''
          obtain ⟨w3, hw3⟩ : ∃ w3, w3 = grow (redrawn W1 dq) osq := ⟨_, rfl⟩
          have hb3 : Below W1.heap.size W1 w3 := by rw [hw3]; exact below_regrown _ _ _
          rw [← hw3]
          clear hw3 hk0
          try clear hk1 hk2
          have hkc : k ≤ c := by omega
          obtain ⟨gx, hgx⟩ : ∃ gx, gx = wr.heap.size := ⟨_, rfl⟩
          have hgl : gx < W1.heap.size := by omega
          rw [← hgx] at HK ⊢
          clear hgx k0 k1 k2 hr0 hr1 hr2
          go_wp2_with (fail)
          go_loopw [39] (fun i wq => ∃ (j : Nat), j ≤ k ∧ i = .int .i64 (j : Int) ∧ Aside (∀ j' (hj : j' < l.length), j' < j → (l[j'].path ++ [47]).isPrefixOf e.path = false) ∧ Aside (Below W1.heap.size W1 wq)) (fun i _ => k - (intOf i).toNat)
          case atStart => exact ⟨0, Nat.zero_le _, rfl, fun j' _ h => absurd h (Nat.not_lt_zero _), hb3⟩
          case round =>
            obtain ⟨j, hj, rfl, hpre, hbq⟩ := hrel
            have hbQ : Below w.heap.size w wr := hb.out.trans (HB1.out.trans (hbq.out.mono HSZ.out))
            by_cases hjk : j < k
            · obtain ⟨bj, offj, hA, _, hjl, g0, g1, g2, _⟩ := (H.out.below (hbQ.mono hB)).at_ (k := j) (by omega)
              injection hA with hA
              injection hA with e1 e2
              subst e1 e2
              have hjl' : j < l.length := by rw [HLL.out]; omega
              have HLJ := Lib.hid (show l[j] = es[j].ent by have := HL.out; subst this; exact ents_get hjl hjl')
              have hyl := HP.out _ (List.getElem_mem hjl)
              generalize es[j] = y at *
              have hn1 : ¬ 9223372036854775807 < y.path.length + 1 := by omega
              have hgw : gx < wr.heap.size := Nat.lt_of_lt_of_le hgl hbq.out.size
              have hgn : ¬ gx = wr.heap.size := by omega
              have hgn2 : ¬ wr.heap.size = gx := by omega
              have hjn : j < n := by omega
              obtain ⟨x0, x1, x2⟩ := HK.out (wr.alloc (.cells #[.string ⟨y.path.toArray⟩, .int .i64 y.kind, .slice y.A y.n y.c] 35)) (hbq.out.alloc hbq.out.size _)
              have hHP := pre_str e.path y.path
              have hbq2 := hbq.out.alloc hbq.out.size (.cells #[.string ⟨y.path.toArray⟩, .int .i64 y.kind, .slice y.A y.n y.c] 35)
              cases hpx : (y.path ++ [47]).isPrefixOf e.path with
              | true =>
                have HR := Lib.hid (HBP.out j hjl' hjk (by rw [HLJ.out]; exact hpx))
                rw [hpx] at hHP
                clear hyl
                go_wp2_with (go_at_call 81; refine (hHP _).mono ?_; rintro e5 w5 ⟨rfl, rfl⟩)
                go_ret
                exact ⟨by rw [HR.out]; rfl, hb.out.trans (HB1.out.trans (hbq2.mono HSZ.out))⟩
              | false =>
                rw [hpx] at hHP
                clear hyl
                go_wp2_with (go_at_call 81; refine (hHP _).mono ?_; rintro e5 w5 ⟨rfl, rfl⟩)
                refine ⟨⟨j + 1, by omega, by go_num, fun j' hj' hlt' => ?_, hbq2⟩, by simp [intOf]; omega⟩
                by_cases he : j' = j
                · subst he; rw [HLJ.out]; exact hpx
                · exact hpre.out j' hj' (by omega)
            · obtain rfl : j = k := by omega
              have hnext := HFIT.out (fun k' hk' hlt' => hpre.out k' hk' hlt')
              go_wp2_with (fail)
              exact ⟨⟨j + 1, by omega, by go_num, hnext, hbQ⟩, by simp [intOf]; omega⟩
    · obtain rfl : k = n := by omega
      have HR := Lib.hid (show rightB l = true by rw [HG.out, HLL.out]; exact hr.out)
      go_wp2
      go_ret
      exact ⟨by rw [HR.out]; rfl, hb.out⟩
end Go.Proofs.YtibndaianhlcaaaGreatDoor
namespace Go.Proofs.YtibndaianhlcaaaGreatDoor
open Go.RowKit Go.Shelf
set_option linter.unusedVariables false
set_option linter.unusedSimpArgs false

def kindW (k : Int) : Txt := if k = 3 then [108, 32] else [102, 32]
def entT (x : Ent) : Txt := kindW x.kind ++ x.path ++ [32] ++ Lib.itoa (x.data.length : Int) ++ [10] ++ x.data ++ [10]
def entsT (l : List Ent) (k : Nat) : Txt := [116, 114, 101, 101, 10] ++ (l.take k).flatMap entT
/-- A tree's bytes. -/
def bytesB (l : List Ent) : Txt := if rightB l = true then entsT l l.length ++ [101, 110, 100, 10] else []
theorem entsT_zero (l : List Ent) : entsT l 0 = [116, 114, 101, 101, 10] := by simp [entsT]
theorem entsT_succ (l : List Ent) (k : Nat) (h : k < l.length) : entsT l (k + 1) = entsT l k ++ entT l[k] := by
  unfold entsT
  rw [List.take_succ_eq_append_getElem h, List.flatMap_append, ← List.append_assoc]
  simp
theorem kindW_length (k : Int) : (kindW k).length = 2 := by unfold kindW; split <;> rfl
theorem entryB_len {x : Ent} (h : entryB x = true) : x.path.length ≤ 120 ∧ x.data.length ≤ 2048 := by
  unfold entryB at h
  simp only [Bool.and_eq_true, decide_eq_true_eq] at h
  exact h.1.1.1
theorem entryB_kind {x : Ent} (h : entryB x = true) : x.kind = 3 ∨ x.kind = 1 := by
  unfold entryB at h
  simp only [Bool.and_eq_true, decide_eq_true_eq] at h
  by_cases h3 : x.kind = 3
  · exact .inl h3
  · have := h.2
    rw [if_neg h3] at this
    exact .inr (by simpa using this)
theorem rightB_entry {l : List Ent} (h : rightB l = true) : l.length ≤ 24 ∧ ∀ (i : Nat) (hi : i < l.length), fitsB l i l[i] = true := by
  unfold rightB at h
  rw [Bool.and_eq_true, decide_eq_true_eq] at h
  refine ⟨h.1, fun i hi => ?_⟩
  have h1 := List.all_eq_true.1 (show ((List.range l.length).all fun i => match l[i]? with | some x => fitsB l i x | none => true) = true from h.2) i (List.mem_range.2 hi)
  rw [List.getElem?_eq_getElem hi] at h1
  exact h1
theorem rightB_len {l : List Ent} (h : rightB l = true) : l.length ≤ 24 ∧ ∀ x ∈ l, x.path.length ≤ 120 ∧ x.data.length ≤ 2048 := by
  obtain ⟨h1, h2⟩ := rightB_entry h
  refine ⟨h1, fun x hx => ?_⟩
  obtain ⟨i, hi, rfl⟩ := List.mem_iff_getElem.1 hx
  have := h2 i hi
  unfold fitsB at this
  rw [Bool.and_eq_true] at this
  exact entryB_len this.1
theorem entT_length {x : Ent} (h : x.path.length ≤ 120 ∧ x.data.length ≤ 2048) : (entT x).length ≤ 4000 := by
  have := itoa_len x.data.length (by omega)
  unfold entT
  simp only [List.length_append, List.length_cons, List.length_nil, kindW_length]
  omega
theorem flat_length {α β : Type} (f : α → List β) (b : Nat) : ∀ l : List α, (∀ x ∈ l, (f x).length ≤ b) → (l.flatMap f).length ≤ l.length * b
  | [], _ => by simp
  | x :: l, h => by
    have h1 := h x (List.mem_cons_self ..)
    have h2 := flat_length f b l (fun y hy => h y (List.mem_cons_of_mem _ hy))
    rw [List.flatMap_cons, List.length_append, List.length_cons, Nat.succ_mul]
    omega
theorem entsT_length {l : List Ent} (h : l.length ≤ 24 ∧ ∀ x ∈ l, x.path.length ≤ 120 ∧ x.data.length ≤ 2048) (k : Nat) : (entsT l k).length ≤ 100000 := by
  have h1 := flat_length entT 4000 (l.take k) (fun x hx => entT_length (h.2 x (List.mem_of_mem_take hx)))
  have h2 : (l.take k).length ≤ 24 := by rw [List.length_take]; omega
  unfold entsT
  simp only [List.length_append, List.length_cons, List.length_nil]
  have := Nat.mul_le_mul_right 4000 h2
  omega

def BytesPost (w : World) (t : Txt) : Ending → World → Prop := fun e w' => ∃ A n c, e = .returned (.slice A n c) ∧ w'.ownsRow w.heap.size 5 1 (.slice A n c) n (t.map bv) ∧ Below w.heap.size w w'
theorem own_mono {w : World} {b b' : Nat} {e : TypeId} {size : Nat} {v : Value} {n : Nat} {xs : List Value} (h : w.ownsRow b e size v n xs) (hb : b' ≤ b) : w.ownsRow b' e size v n xs :=
  ⟨h.1, h.2.imp id fun ⟨g, c, cur, e1, h1, h2⟩ => ⟨g, c, cur, e1, Nat.le_trans hb h1, h2⟩⟩
end Go.Proofs.YtibndaianhlcaaaGreatDoor
namespace Go.Proofs.YtibndaianhlcaaaGreatDoor
open Go.RowKit
set_option linter.unusedVariables false
set_option linter.unusedSimpArgs false

theorem wp_append_run2 {P : Program} {o : Oper} {a : Act} {K : Act → World → Prop} {Q : Exit → Act → World → Prop} (s x : Operand) (t u : TypeId)
    (ho : o.op = .call { callee := .builtin .append, args := #[s, x], argTypes := #[t, u] }) {w w' : World} {v y v' : Value} (hs : a.eval s = v) (hx : a.eval x = y)
    (hrun : (Builtin.append_ #[t, u] o.type #[v, y]).run P w = .ok v' w') (h : K (a.put o.dst v') w') : o.wp P a w K Q := by
  unfold Oper.wp execOp
  simp only [ho, resolve, invoke, builtin, Sem.run_bind, Sem.run_pure, Result.andThen_ok, List.map_toArray, List.map_cons, List.map_nil, hs, hx, hrun]
  exact h
theorem wpList_append_run2 {P : Program} {ops : Array Oper} {rest : List Oper} {o : Oper} {a : Act} {Q : Exit → Act → World → Prop} (hgd : o.guard = none) (s x : Operand) (t u : TypeId)
    (ho : o.op = .call { callee := .builtin .append, args := #[s, x], argTypes := #[t, u] }) {w w' : World} {v y v' : Value} (hs : a.eval s = v) (hx : a.eval x = y)
    (hrun : (Builtin.append_ #[t, u] o.type #[v, y]).run P w = .ok v' w') (h : wpList P ops Q rest (a.put o.dst v') w') : wpList P ops Q (o :: rest) a w :=
  wpList_plain hgd fun _ hK => wp_append_run2 s x t u ho hs hx hrun (hK _ _ h)

theorem strCells_bv (s : ByteArray) (k : List UInt8) (hs : s.data.toList = k) : Lib.strCells s = k.map bv := by
  unfold Lib.strCells
  rw [hs]
  rfl
/-- append of a string onto bytes of the call's own. -/
theorem append_txt (w : World) (base : Nat) (v : Value) (n : Nat) (l : List UInt8) (hown : w.ownsRow base 5 1 v n (l.map bv)) (s : ByteArray) (k : List UInt8) (hs : s.data.toList = k) (hb : n + k.length ≤ 140737488355328) (hbase : base ≤ w.heap.size) :
    ∃ A' c' w', (Builtin.append_ #[33, 9] 33 #[v, .string s]).run Tryz.prog w = .ok (.slice A' (n + k.length) c') w' ∧ w'.ownsRow base 5 1 (.slice A' (n + k.length) c') (n + k.length) ((l ++ k).map bv) ∧ w.grownBy w' v.ownBlock := by
  obtain ⟨i, hi, hz0, hz1, hz2⟩ := info_parts byte_info
  have hsz : s.size = k.length := by rw [← hs]; rfl
  obtain ⟨v', w', h1, h2, h3, _⟩ := Lib.run_append_own_string (P := Tryz.prog) w base 33 9 33 5 i Tryz.underlying33 Tryz.underlying9 hi hz0 hz1 hz2 v n (l.map bv) hown s (by rw [hsz]; unfold maxLen; omega) (by rw [hsz]; exact hb) hbase
  rw [hsz] at h2
  obtain ⟨A', c', rfl, _⟩ := own_slc h2
  exact ⟨A', c', w', h1, by rw [List.map_append, ← strCells_bv s k hs]; exact h2, h3⟩
/-- What has grown beside a row of the call's own keeps what lies below. -/
theorem grown_below {w w0 w' : World} {base : Nat} {e : TypeId} {size : Nat} {v : Value} {n : Nat} {xs : List Value} (hb : Below base w0 w) (hown : w.ownsRow base e size v n xs) (hbase : base ≤ w.heap.size) (hg : w.grownBy w' v.ownBlock) : Below base w0 w' :=
  hb.grown hg hbase fun q hq => (hown.lt q hq).1

theorem empty_own (w : World) (base : Nat) (hb : base ≤ w.heap.size) : (w.alloc (.cells #[] 5)).ownsRow base 5 1 (.slice (some ⟨w.heap.size, 0, none⟩) 0 0) 0 (([] : List UInt8).map bv) :=
  ⟨rfl, .inr ⟨w.heap.size, 0, #[], rfl, hb, heap_alloc_new w _, Nat.le_refl _, Nat.zero_le _, rfl, rfl⟩⟩
/-- Bytes that can be appended to: of the call's own, or a full row that is read alone. -/
def BufB (w : World) (base : Nat) (A : Option Addr) (n c : Nat) (l : List UInt8) : Prop :=
  w.ownsRow base 5 1 (.slice A n c) n (l.map bv) ∨ (Slc w w.heap.size 1 A n c (l.map bv) ∧ c = n ∧ ∃ g, A = some ⟨g, 0, none⟩)
theorem BufB.below {w w' : World} {base : Nat} {A : Option Addr} {n c : Nat} {l : List UInt8} (h : BufB w base A n c l) (hb : Below w.heap.size w w') : BufB w' base A n c l := by
  rcases h with h | ⟨h1, h2, h3⟩
  · refine .inl ⟨h.1, ?_⟩
    rcases h.2 with hn | ⟨g, cap, cur, e, e1, e2, rest⟩
    · exact .inl hn
    · exact .inr ⟨g, cap, cur, e, e1, by rw [hb.block g (Array.getElem?_eq_some_iff.1 e2).1]; exact e2, rest⟩
  · exact .inr ⟨(h1.below hb).more hb.size, h2, h3⟩
theorem BufB.slc {w : World} {base : Nat} {A : Option Addr} {n c : Nat} {l : List UInt8} (h : BufB w base A n c l) : Slc w w.heap.size 1 A n c (l.map bv) := by
  rcases h with h | h
  · exact own_slc_of h
  · exact h.1
theorem own_txt {w : World} {base : Nat} {A : Option Addr} {n c : Nat} {l : List UInt8} (h : w.ownsRow base 5 1 (.slice A n c) n (l.map bv)) (s : ByteArray) (k : List UInt8) (hs : s.data.toList = k) (hb : n + k.length ≤ 140737488355328) (hbase : base ≤ w.heap.size) :
    ∃ A' n' c' w', (Builtin.append_ #[33, 9] 33 #[.slice A n c, .string s]).run Tryz.prog w = .ok (.slice A' n' c') w' ∧ w'.ownsRow base 5 1 (.slice A' n' c') n' ((l ++ k).map bv) ∧ Below base w w' := by
  obtain ⟨A', c', w', h1, h2, h3⟩ := append_txt w base _ n l h s k hs hb hbase
  exact ⟨A', _, c', w', h1, h2, grown_below (Below.refl _ w) h hbase h3⟩
theorem own_bytes {w : World} {base : Nat} {A : Option Addr} {n c : Nat} {l : List UInt8} (h : w.ownsRow base 5 1 (.slice A n c) n (l.map bv)) {B : Nat} {A2 : Option Addr} {m c2 : Nat} {k : List UInt8} (hk : Slc w B 1 A2 m c2 (k.map bv)) (hb : n + m ≤ 140737488355328) (hbase : base ≤ w.heap.size) :
    ∃ A' n' c' w', (Builtin.append_ #[33, 33] 33 #[.slice A n c, .slice A2 m c2]).run Tryz.prog w = .ok (.slice A' n' c') w' ∧ w'.ownsRow base 5 1 (.slice A' n' c') n' ((l ++ k).map bv) ∧ Below base w w' := by
  obtain ⟨A', c', w', h1, h2, h3, _⟩ := append_bytes w base _ n l h B A2 m c2 k hk hb hbase
  exact ⟨A', _, c', w', h1, h2, grown_below (Below.refl _ w) h hbase h3⟩
set_option maxRecDepth 100000 in
/-- append of a string onto such bytes: behind it they are the call's own. -/
theorem BufB.txt {w : World} {base : Nat} {A : Option Addr} {n c : Nat} {l : List UInt8} (h : BufB w base A n c l) (s : ByteArray) (k : List UInt8) (hs : s.data.toList = k) (hk : 0 < k.length) (hb : n + k.length ≤ 1000000000) (hbase : base ≤ w.heap.size) :
    ∃ A' n' c' w', (Builtin.append_ #[33, 9] 33 #[.slice A n c, .string s]).run Tryz.prog w = .ok (.slice A' n' c') w' ∧ w'.ownsRow base 5 1 (.slice A' n' c') n' ((l ++ k).map bv) ∧ Below base w w' := by
  rcases h with h | ⟨h1, h2, g, h3⟩
  · exact own_txt h s k hs (by omega) hbase
  subst h3
  obtain ⟨i, hi, hz0, hz1, hz2⟩ := info_parts byte_info
  have hsz : s.size = k.length := by rw [← hs]; rfl
  have hl : l.length = n := by have := h1.len; simpa using this
  have holds : ∀ j v, (l.map bv)[j]? = some v → w.cell? ((⟨g, 0, none⟩ : Addr).add j) = some v := fun j v hv => by
    rcases Nat.eq_zero_or_pos n with h0 | h0
    · rw [List.eq_nil_of_length_eq_zero (by omega : l.length = 0)] at hv
      simp at hv
    · obtain ⟨b, off, e1, _, hc⟩ := h1.at_ h0
      injection e1 with e1
      injection e1 with e1 e2
      subst e1 e2
      rw [addr_of_add]
      exact hc j v hv
  have hcap := h1.cmax
  have hfit : Builtin.nextslicecap (n + s.size) c * 1 ≤ 281474976710656 := growslice_fits (by rw [hsz]; omega) (by rw [hsz]; omega)
  have hr := Lib.run_append_grow_string (P := Tryz.prog) w 33 9 33 5 i _ Tryz.underlying33 Tryz.underlying9 hi hz0 ⟨g, 0, none⟩ n c (l.map bv) (by rw [hz1]; simpa using hl) holds s (by rw [hsz]; omega) (by rw [hsz]; omega) (by rw [hz2]; exact hfit)
  have hge := grownCap_ge w (n + s.size) c 5
  have hcm : grownCap w (n + s.size) c 5 ≤ maxLen := grownCap_le_maxLen w (n + s.size) c _ (by rw [hsz]; unfold maxLen; omega)
  have hlen : ((l ++ k).map bv).length = (n + s.size) * 1 := by rw [List.length_map, List.length_append, hl, hsz, Nat.mul_one]
  refine ⟨_, _, _, _, hr, ⟨hlen, .inr ⟨w.heap.size, _, _, rfl, hbase, heap_alloc_new w.drew _, hge, hcm, ?_, ?_⟩⟩, ((Below.refl base w).drew).alloc hbase _⟩
  · have hz3 : (Value.int IntKind.u8 0).cells.size = 1 := rfl
    simp only [Array.size_append, List.size_toArray, size_zeroCells, hz3, List.length_map, hl, Lib.strCells_length]
    omega
  · rw [← hlen, List.map_append, ← strCells_bv s k hs]
    simp only [Array.toList_append]
    exact List.take_left
end Go.Proofs.YtibndaianhlcaaaGreatDoor
