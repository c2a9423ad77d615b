/- The walk of tree.right: may an entry be? -/
import Derived.Test.YtdhlklidenfbeaaGreatDoorPath
namespace Go.Proofs.YtdhlklidenfbeaaGreatDoor
open Go.RowKit Go.Shelf
set_option linter.unusedVariables false
set_option linter.unusedSimpArgs false

theorem results_bool {w : World} {fn : Func} {tmps : Array Value} {g : Addr} {x : Value} (h : fn.results = #[.cell 2 4]) (ht : tmps.getD 2 undef = .pointer (some g)) (hx : w.cell? g = some x) : (results fn tmps).run Tryz.prog w = .ok x w := by
  simp only [Array.getD_eq_getD_getElem?] at ht
  simp [results, h, ht, asAddr, loadVar, Tryz.isAgg4, hx, go_sem]
def evArr (e : EV) : Array Value := #[.string ⟨e.path.toArray⟩, .int .i64 e.kind, .slice e.A e.n e.c]
structure EntI (w : World) (e : EV) (pre : List Txt) (W : World) : Prop where
  names : pre.all nameB = true
  box : Blk W w.heap.size 73 (evArr e)
  res : Blk W (w.heap.size + 1) 4 #[.bool false]
  bel : Below w.heap.size w W
structure EntX (w : World) (e : EV) (W : World) : Prop where
  bad : entryB e.ent = false
  res : Blk W (w.heap.size + 1) 4 #[.bool false]
  bel : Below w.heap.size w W
theorem EntI.alloc {w W : World} {e : EV} {pre : List Txt} (h : EntI w e pre W) (o : Obj) : EntI w e pre (W.alloc o) := ⟨h.names, h.box.alloc _, h.res.alloc _, h.bel.alloc h.bel.size _⟩
theorem EntI.put {w W : World} {e : EV} {pre : List Txt} (h : EntI w e pre W) (o : Obj) : EntI w e pre (W.putObj (w.heap.size + 6) o) := ⟨h.names, blk_put h.box (by omega) _, blk_put h.res (by omega) _, below_put h.bel (by omega) _⟩
theorem EntI.set {w W : World} {e : EV} {pre : List Txt} (h : EntI w e pre W) (v : Value) : EntI w e pre (W.setCell ⟨w.heap.size + 2, 0, none⟩ v) :=
  ⟨h.names, h.box.far (by simp) _, h.res.far (by simp) _, h.bel.setCell (p := ⟨w.heap.size + 2, 0, none⟩) (by simp) _⟩
theorem EntI.drew {w W : World} {e : EV} {pre : List Txt} (h : EntI w e pre W) : EntI w e pre W.drew := ⟨h.names, h.box, h.res, h.bel.drew⟩
theorem EntX.put {w W : World} {e : EV} (h : EntX w e W) (o : Obj) : EntX w e (W.putObj (w.heap.size + 6) o) := ⟨h.bad, blk_put h.res (by omega) _, below_put h.bel (by omega) _⟩

theorem entryB_long {x : Ent} (h : 120 < x.path.length ∨ 2048 < x.data.length) : entryB x = false := by
  unfold entryB
  rw [decide_eq_false (by omega)]
  rfl
theorem entryB_deep {x : Ent} (h : 4 ≤ x.path.count 47) : entryB x = false := by
  unfold entryB
  rw [decide_eq_false (p := (splitS x.path).length ≤ 4) (by rw [splitS_length]; omega)]
  simp
theorem entryB_name {x : Ent} {t : Txt} (ht : t ∈ splitS x.path) (h : nameB t = false) : entryB x = false := by
  unfold entryB
  rw [show (splitS x.path).all nameB = false from List.all_eq_false.2 ⟨t, ht, by rw [h]; decide⟩]
  simp
theorem entryB_end {x : Ent} (h1 : x.path.length ≤ 120) (h2 : x.data.length ≤ 2048) (h3 : x.path.count 47 < 4) (h4 : (splitS x.path).all nameB = true) : entryB x = if x.kind = 3 then (pathNames x.data).isSome else decide (x.kind = 1) := by
  unfold entryB
  rw [decide_eq_true (show x.path.length ≤ 120 ∧ x.data.length ≤ 2048 from ⟨h1, h2⟩), decide_eq_true (p := (splitS x.path).length ≤ 4) (by rw [splitS_length]; omega), h4]
  simp

def EntPost (w : World) (e : EV) : Ending → World → Prop := fun v w' => v = .returned (.bool (entryB e.ent)) ∧ Below w.heap.size w w'
section
attribute [local go_sem] Oper.semAt_some
set_option maxRecDepth 100000 in
set_option maxHeartbeats 1000000 in
theorem entry_any {w : World} {B : Nat} (e : EV) (hd : Slc w B 1 e.A e.n e.c (e.data.map bv)) (hB : B ≤ w.heap.size) (hp : e.path.length ≤ 1000000000) :
    Calls Tryz.prog 46 #[.agg (evArr e)] w (EntPost w e) := by
  obtain ⟨path, kind, data, A, n, c⟩ := e
  simp only at hd hp
  have hdl : data.length = n := by have := hd.len; simpa using this
  obtain ⟨W2, hW2⟩ : ∃ W2, W2 = (w.alloc (.cells #[.string ⟨path.toArray⟩, .int .i64 kind, .slice A n c] 73)).alloc (.cells #[.bool false] 4) := ⟨_, rfl⟩
  have hb2 : Below w.heap.size w W2 := by rw [hW2]; exact ((Below.refl _ w).alloc (Nat.le_refl _) _).alloc (by simp) _
  have hbox : Blk W2 w.heap.size 73 #[.string ⟨path.toArray⟩, .int .i64 kind, .slice A n c] := by rw [hW2]; exact (Blk.new _ _ _).alloc _
  have hres : Blk W2 (w.heap.size + 1) 4 #[.bool false] := by
    rw [hW2]
    have := Blk.new (w.alloc (.cells #[.string ⟨path.toArray⟩, .int .i64 kind, .slice A n c] 73)) 4 #[.bool false]
    rwa [World.size_alloc] at this
  have hz2 : W2.heap.size = w.heap.size + 2 := by rw [hW2]; simp
  have hct := fun W => Tryz.strings_Count_one ⟨path.toArray⟩ 47 W
  have hcd : (ByteArray.mk path.toArray).data.toList = path := rfl
  rw [hcd] at hct
  unfold evArr
  by_cases hlong : 120 < path.length ∨ 2048 < data.length
  · have HG := Lib.hid (entryB_long (x := ⟨path, kind, data⟩) hlong)
    have hq : 120 < path.length ∨ (¬ 120 < path.length ∧ 2048 < n) := by omega
    clear hlong hdl hd
    rcases hq with h0 | ⟨h0, h1⟩
    all_goals
      go_enter Tryz.func46, Tryz.ntmps46
      go_wp2_with (fail)
      rw [← hW2]
      refine bodyPost_ret (results_bool (g := ⟨w.heap.size + 1, 0, none⟩) rfl rfl (hres.cell 0)) rfl ⟨by show _ = Ending.returned (.bool (entryB ⟨path, kind, data⟩)); rw [HG.out]; rfl, hb2⟩
  have hl1 : ¬ 120 < path.length := by omega
  have hl2 : ¬ 2048 < n := by omega
  by_cases hdeep : 4 ≤ path.count 47
  · have HG := Lib.hid (entryB_deep (x := ⟨path, kind, data⟩) hdeep)
    have hd4 : (4 : Int) ≤ (Lib.countByte path 47 : Nat) := by unfold Lib.countByte; omega
    clear hlong hdl hd hdeep
    go_enter Tryz.func46, Tryz.ntmps46
    go_wp2_with (go_at_call 69; refine (hct _).mono ?_; clear hct; rintro e w' ⟨rfl, hw⟩; obtain rfl := hw.symm)
    rw [← hW2]
    refine bodyPost_ret (results_bool (g := ⟨w.heap.size + 1, 0, none⟩) rfl rfl (hres.cell 0)) rfl ⟨by show _ = Ending.returned (.bool (entryB ⟨path, kind, data⟩)); rw [HG.out]; rfl, hb2⟩
  have hd4 : ¬ (4 : Int) ≤ (Lib.countByte path 47 : Nat) := by unfold Lib.countByte; omega
  have hpl : path.length ≤ 120 := by omega
  have hnl : data.length ≤ 2048 := by omega
  have HEND := Lib.hid (fun h4 => entryB_end (x := ⟨path, kind, data⟩) hpl hnl (by show path.count 47 < 4; omega) h4)
  have HBADN := Lib.hid (fun (t : Txt) ht h => entryB_name (x := ⟨path, kind, data⟩) (t := t) ht h)
  refine callsIn_wide.1 (callsIn_of_wp_marks (F := Fence.wide) (n := 8) Tryz.func46 rfl trivial (wpIn_wide.2 ?_))
  obtain ⟨fn, hfn⟩ : ∃ fn, fn = Tryz.f46 := ⟨_, rfl⟩
  obtain ⟨Q, hQ⟩ : ∃ Q, Q = bodyPostM Fence.wide 8 Tryz.prog Tryz.f46 (EntPost w ⟨path, kind, data, A, n, c⟩) := ⟨_, rfl⟩
  have hQ1 : ∀ (t : Array Value) (w9 : World) (D2 : Nat), w9.heap[D2]? = some (.deferred (some [])) → (∃ v, (results Tryz.f46 t).run Tryz.prog (w9.putObj D2 (.deferred none)) = .ok v (w9.putObj D2 (.deferred none)) ∧ EntPost w ⟨path, kind, data, A, n, c⟩ (.returned v) (w9.putObj D2 (.deferred none))) → Q .ret ⟨t, [{ target := .collected D2, args := #[] }]⟩ w9 := fun t w9 D2 hk hv => by
    rw [hQ]; exact ⟨by simp, .inl ⟨_, _, rfl, run_takeDeferred hk, hv⟩⟩
  have HQ1 := Lib.hid hQ1
  rw [← hQ]
  clear hQ1 hQ hfn hlong hdeep
  simp only [Tryz.ntmps46, List.size_toArray, List.length_cons, List.length_nil, Nat.reduceAdd, Nat.reduceSub, Array.replicate_succ, Array.replicate_zero, List.push_toArray, List.append_toArray, List.nil_append, List.cons_append]
  go_wp2_with (first
    | (go_at_call 69; refine (hct _).mono ?_; clear hct; rintro e w' ⟨rfl, hw⟩; obtain rfl := hw.symm)
    | (go_at_call 70; refine (split_any _ _).mono ?_; rintro e w5 ⟨rfl, rfl⟩))
  rw [← hW2]
  obtain ⟨w5, hw5⟩ : ∃ w5, w5 = splitW W2 ⟨path.toArray⟩ := ⟨_, rfl⟩
  rw [← hw5]
  obtain ⟨s1, s2, s3, sb, sz⟩ := splitW_facts W2 ⟨path.toArray⟩
  rw [← hw5] at s1 s2 s3 sb sz
  rw [hz2] at s1 s2 s3 sz
  have hI0 : EntI w ⟨path, kind, data, A, n, c⟩ [] w5 := ⟨rfl, hbox.below sb hbox.lt, hres.below sb hres.lt, hb2.trans (sb.mono hb2.size)⟩
  have HZ5 := Lib.hid (show w5.heap.size = w.heap.size + 5 by omega)
  have HI0 := Lib.hid hI0
  have S1 := Lib.hid s1
  have S2 := Lib.hid s2
  have S3 := Lib.hid s3
  have HD := Lib.hid hd
  have HPL := Lib.hid hpl
  have HDL := Lib.hid hdl
  have HNL := Lib.hid hnl
  clear hbox hres hI0 s1 s2 s3 sb sz hb2 hd hw5 hW2 hpl hdl hnl
  refine (wpIn_wide (n := 8)).1 ?_
  refine range_cell (α := Txt) rfl (by omega) (gf := 127) (lb := #[.pointer (some ⟨w.heap.size + 1 + 1 + 1, 0, none⟩), .pointer (some ⟨w.heap.size + 1 + 1, 0, none⟩), .pointer (some ⟨w.heap.size + 1 + 1 + 2, 0, none⟩)]) rfl trivial (enters_of Tryz.func127 (by kernel_rfl) rfl)
    (enc := fun x : Txt => #[.string ⟨x.toArray⟩]) (Kp := Kp3 (w.heap.size + 2) (w.heap.size + 3) (w.heap.size + 4)) (S := fun xs => xs = splitS path) (Sp := fun pre => pre <+: splitS path) (bs := w.heap.size + 2)
    (fun W hW => splitseq_in 7 (by omega) (w.heap.size + 2) (w.heap.size + 3) (w.heap.size + 4) (by omega) (by omega) path (by have := HPL.out; omega) W (S1.out.below hW S1.out.lt) (S2.out.below hW S2.out.lt) (S3.out.below hW S3.out.lt))
    (by have := HZ5.out; omega) (fun h k => h.trans k) (fun A o => ⟨World.putObj_heap_other (by have := HZ5.out; omega), World.putObj_heap_other (by have := HZ5.out; omega), World.putObj_heap_other (by have := HZ5.out; omega)⟩) (fun _ => rfl)
    (fun pre W => EntI w ⟨path, kind, data, A, n, c⟩ pre W) (fun _ W => EntX w ⟨path, kind, data, A, n, c⟩ W) (fun s A o h => h.alloc o) (fun s A o _ h => by rw [HZ5.out]; exact h.put o) (fun s A v h => h.set v) (fun s A h => h.drew) (fun s A o _ h => by rw [HZ5.out]; exact h.put o) HI0.out
    ?act ?assign ?body ?done ?stop
  case assign =>
    intro l x W K hK
    gi_wp2
    exact hK
  case body =>
    intro l pre x W hI hS hlt
    have hxm : x ∈ splitS path := hS.subset (by simp)
    have hxl : x.length ≤ 120 := Nat.le_trans (splitS_mem_length path x hxm) HPL.out
    have hnm := name_any ⟨x.toArray⟩ W (by show x.length ≤ maxLen; unfold maxLen; omega)
    have hxd : (ByteArray.mk x.toArray).data.toList = x := rfl
    rw [hxd] at hnm
    cases hnx : nameB x with
    | false =>
      rw [hnx] at hnm
      gi_wp2_with (refine ⟨trivial, ?_⟩; gi_at_call 71; refine (CallsIn.inRound l (callsIn_wide.2 hnm)).mono ?_; clear hnm; rintro e6 w6 ⟨rfl, hb6⟩; have r3 := hI.res.below hb6 hI.res.lt; have u3 := r3.cell 0; have v3 := r3.frozen 0; simp only [List.getElem?_toArray, List.getElem?_cons_zero] at u3)
      exact ⟨(rec_of hb6 hlt).set (by have := HZ5.out; simp; omega) (by have := HZ5.out; simp; omega) _, ⟨HBADN.out x hxm hnx, r3.set_ 0 _, (hI.bel.trans (hb6.mono hI.bel.size)).setCell (p := ⟨w.heap.size + 1, 0, none⟩) (by simp) _⟩⟩
    | true =>
      rw [hnx] at hnm
      gi_wp2_with (refine ⟨trivial, ?_⟩; gi_at_call 71; refine (CallsIn.inRound l (callsIn_wide.2 hnm)).mono ?_; clear hnm; rintro e6 w6 ⟨rfl, hb6⟩)
      exact ⟨rec_of hb6 hlt, kp3_of hb6 (by have := HZ5.out; omega) (by have := HZ5.out; omega) (by have := HZ5.out; omega), ⟨by rw [List.all_append, hI.names]; simp [hnx], hI.box.below hb6 hI.box.lt, hI.res.below hb6 hI.res.lt, hI.bel.trans (hb6.mono hI.bel.size)⟩⟩
  case done =>
    intro xs W hS hI hlt hK
    subst hS
    have HG := Lib.hid (HEND.out hI.names)
    have hzD := HZ5.out
    have u0 := hI.box.cell 0
    have u1 := hI.box.cell 1
    have u2 := hI.box.cell 2
    have u3 := hI.res.cell 0
    have v3 := hI.res.frozen 0
    simp only [evArr, List.getElem?_toArray, List.getElem?_cons_zero, List.getElem?_cons_succ] at u0 u1 u2 u3
    have hbd := HD.out.below (hI.bel.mono hB)
    have hcv := convert_bytes (P := Tryz.prog) Tryz.underlying32 Tryz.underlying5 hbd 9 Tryz.underlying9
    have hpa := path_any data (by have := HDL.out; have h1 := hbd.le; have h2 := hbd.cmax; have h3 := HNL.out; omega) W
    by_cases h3 : kind = 3
    · have HR := Lib.hid (HG.out.trans (if_pos h3))
      have hk3 : (kind == 3) = true := by simpa using h3
      clear h3 HG hbd
      go_wp2_with (go_at_call 72; refine hpa.mono ?_; clear hpa; rintro e6 w6 ⟨A6, n6, c6, rfl, ho6, hb6⟩; have r3 := hI.res.below hb6 hI.res.lt; have u4 := r3.cell 0; have v4 := r3.frozen 0; simp only [List.getElem?_toArray, List.getElem?_cons_zero] at u4)
      have hK9 : (w6.setCell ⟨w.heap.size + 1, 0, none⟩ (.bool (pathNames data).isSome)).heap[w.heap.size + 5]? = some (.deferred (some [])) :=
        (Below.heap_setCell _ _ _ _ (by simp only; omega)).trans ((hb6.block _ (by omega)).trans (hzD ▸ hK))
      refine HQ1.out _ _ _ hK9 ?_
      exact ⟨_, results_bool (g := ⟨w.heap.size + 1, 0, none⟩) rfl rfl ((blk_put (r3.set_ 0 _) (by omega) _).cell 0), by show Ending.returned (.bool (pathNames data).isSome) = Ending.returned (.bool (entryB ⟨path, kind, data⟩)); rw [HR.out], below_put ((hI.bel.trans (hb6.mono hI.bel.size)).setCell (p := ⟨w.heap.size + 1, 0, none⟩) (by simp) _) (by omega) _⟩
    · have HR := Lib.hid (HG.out.trans (if_neg h3))
      have hk3 : (kind == 3) = false := by simpa using h3
      clear h3 HG hbd hcv hpa
      go_wp2
      have hK9 : (W.setCell ⟨w.heap.size + 1, 0, none⟩ (.bool (kind == 1))).heap[w5.heap.size]? = some (.deferred (some [])) :=
        (Below.heap_setCell _ _ _ _ (by simp only; omega)).trans hK
      have hkd : (kind == 1) = decide (kind = 1) := by rw [Bool.eq_iff_iff]; simp
      refine HQ1.out _ _ _ hK9 ?_
      exact ⟨_, results_bool (g := ⟨w.heap.size + 1, 0, none⟩) rfl rfl ((blk_put (hI.res.set_ 0 _) (by omega) _).cell 0), by show Ending.returned (.bool (kind == 1)) = Ending.returned (.bool (entryB ⟨path, kind, data⟩)); rw [HR.out, hkd], below_put (hI.bel.setCell (p := ⟨w.heap.size + 1, 0, none⟩) (by simp) _) (by omega) _⟩
  case stop =>
    intro pre W hS hX hlt hK
    have hzD := HZ5.out
    have HG := Lib.hid hX.bad
    gi_wp2
    refine HQ1.out _ _ _ hK ?_
    exact ⟨_, results_bool (g := ⟨w.heap.size + 1, 0, none⟩) rfl rfl ((blk_put hX.res (by omega) _).cell 0), by rw [HG.out]; rfl, below_put hX.bel (by omega) _⟩
end
end Go.Proofs.YtdhlklidenfbeaaGreatDoor
