/- activate.System walked: the system of some entries, or none. -/
import Derived.Test.YtibndaianhlcaaaGreatDoorPart27
import Derived.Test.YtibndaianhlcaaaGreatDoorPart28
import Derived.Test.YtibndaianhlcaaaGreatDoorPart19
namespace Go.Proofs.YtibndaianhlcaaaGreatDoor
open Go.RowKit Go.Sort Go.Shelf
set_option linter.unusedVariables false
set_option linter.unusedSimpArgs false

/-- Entries, none of them long. -/
structure SmallE (n : Nat) (es : List EV) : Prop where
  ents : ∀ e ∈ es, e.path.length ≤ 1048576 ∧ e.data.length ≤ 1048576
  n : n ≤ 1048576
set_option maxRecDepth 100000 in
set_option maxHeartbeats 4000000 in
theorem sysAct_none {w : World} {A : Option Addr} {c : Nat} : Calls Tryz.prog 29 #[.slice A 0 c] w (SysPost w [] (.int .i64 0) (.int .i64 63)) := by
  have HN := Lib.hid (show sysR [] = none from rfl)
  go_enter Tryz.func29, Tryz.ntmps29
  go_wp2
  have hB : Blk ((w.alloc (.cells #[.slice none 0 0, .slice none 0 0, .slice none 0 0] 26)).alloc (.cells #[.slice none 0 0, .slice none 0 0, .slice none 0 0] 26)) w.heap.size 26 #[.slice none 0 0, .slice none 0 0, .slice none 0 0] := (Blk.new _ _ _).alloc _
  refine bodyPost_ret (results_aggr2 (t := 2) (g := w.heap.size) rfl rfl Tryz.isAgg26 Tryz.sizeOf26 rfl hB) rfl ?_
  exact SysPost.none_ HN.out ((bel_new w _).alloc (by simp) _)
section
attribute [local go_sem] Oper.semAt_some
set_option maxRecDepth 100000 in
set_option maxHeartbeats 8000000 in
theorem sysAct_any {w : World} {B : Nat} {A : Option Addr} {n c : Nat} {es : List EV} (h : EntsAt w B A n c es) (hB : B ≤ w.heap.size) (hs : SmallE n es) :
    Calls Tryz.prog 29 #[.slice A n c] w (SysPost w (es.map EV.ent) (.int .i64 0) (.int .i64 63)) := by
  rcases Nat.eq_zero_or_pos n with rfl | hpos
  · have hl := h.len
    obtain rfl : es = [] := List.eq_nil_of_length_eq_zero hl
    exact sysAct_none
  obtain ⟨m, rfl⟩ : ∃ m, n = m + 1 := ⟨n - 1, by omega⟩
  obtain ⟨b, off, rfl, hbB, hlm, cm0, cm1, cm2, hSm⟩ := h.at_ (k := m) (by omega)
  have hsm := hs.ents _ (List.getElem_mem hlm)
  have hmn : m + 1 ≤ 1048576 := hs.n
  have hmc : m + 1 ≤ c := h.slc.le
  have hmc1 : m ≤ c := by omega
  have hmc2 : (m : Int) ≤ (c : Int) := by omega
  have hpush : ((m + 1 : Nat) : Int) - 1 = (m : Int) := by omega
  have hne : (((m + 1 : Nat) : Int) == 0) = false := by rw [beq_eq_false_iff_ne]; omega
  obtain ⟨data, hdata⟩ : ∃ data, data = es[m].data := ⟨_, rfl⟩
  have hlen := h.len
  have HLD := Lib.hid (show lastD (es.map EV.ent) = data by
    unfold lastD
    rw [List.getLast?_eq_getElem?, List.length_map, hlen, show m + 1 - 1 = m by omega, List.getElem?_eq_getElem (by rw [List.length_map]; exact hlm), List.getElem_map, hdata]
    rfl)
  have HDL := Lib.hid (show (es.map EV.ent).dropLast = (es.map EV.ent).take m by rw [List.dropLast_eq_take, List.length_map, hlen, show m + 1 - 1 = m by omega])
  have HNE := Lib.hid (show es.map EV.ent ≠ [] from fun e => by have := congrArg List.length e; rw [List.length_map, hlen] at this; simp at this)
  have hdl : data.length ≤ 1048576 := by rw [hdata]; exact hsm.2
  have HH := Lib.hid h
  have HB := Lib.hid hB
  have HS := Lib.hid hs
  have HO0 := Lib.hid (OwnEnts.nil (WX w (.slice none 0 0)) (w.heap.size + 2))
  have HTP := Lib.hid (fun (p : Txt) (W : World) => Tryz.strings_TrimPrefix ⟨p.toArray⟩ ⟨#[101, 116, 99, 47]⟩ W)
  obtain ⟨L, hL⟩ : ∃ L, L = es.map EV.ent := ⟨_, rfl⟩
  have HLL := Lib.hid hL
  have HDT := Lib.hid hdata
  have HSZ := Lib.hid hsm
  rw [← hL] at HLD HDL HNE ⊢
  clear h hB hs hpos hlen hL hdata hsm cm0 cm1 cm2 hSm
  obtain ⟨Q, hQ⟩ : ∃ Q : Exit → Act → World → Prop, Q = fun e a w9 => (∀ c9, e ≠ .panic c9) ∧ bodyPostM Fence.wide 8 Tryz.prog Tryz.f29 (SysPost w L (.int .i64 0) (.int .i64 63)) e a w9 := ⟨_, rfl⟩
  refine callsIn_wide.1 (callsIn_of_wp_marks (F := Fence.wide) (n := 8) Tryz.func29 rfl trivial (wpIn_mono (Q := Q) (wpIn_wide.2 ?_) (fun e a w9 h9 => by rw [hQ] at h9; exact h9.2)))
  have hQ1 : ∀ (t : Array Value) (w9 : World) (D2 : Nat), w9.heap[D2]? = some (.deferred (some [])) → (∃ v, (results Tryz.f29 t).run Tryz.prog (w9.putObj D2 (.deferred none)) = .ok v (w9.putObj D2 (.deferred none)) ∧ SysPost w L (.int .i64 0) (.int .i64 63) (.returned v) (w9.putObj D2 (.deferred none))) → Q .ret ⟨t, [{ target := .collected D2, args := #[] }]⟩ w9 := fun t w9 D2 hk hv => by
    rw [hQ]; exact ⟨(fun c9 h9 => by cases h9), by simp, .inl ⟨_, _, rfl, run_takeDeferred hk, hv⟩⟩
  have HQ2 := Lib.hid (show ∀ c9 a9 w9, Q (.panic c9) a9 w9 → False from fun c9 a9 w9 h9 => by rw [hQ] at h9; exact h9.1 c9 rfl)
  have HQ1 := Lib.hid hQ1
  clear hQ1 hQ
  simp only [Tryz.ntmps29, List.size_toArray, List.length_cons, List.length_nil, Nat.reduceAdd, Nat.reduceSub, Array.replicate_succ, Array.replicate_zero, List.push_toArray, List.append_toArray, List.nil_append, List.cons_append]
  go_wp2_with (fail)
  rw [show (w.alloc (.cells #[.slice none 0 0, .slice none 0 0, .slice none 0 0] 26)).alloc (.cells #[.slice none 0 0, .slice none 0 0, .slice none 0 0] 26) = WX w (.slice none 0 0) from rfl]
  go_loopw [22] (fun i wr => ∃ (k : Nat) (A' : Option Addr) (c' : Nat) (es' : List EV), k ≤ m ∧ i = .int .i64 (k : Int) ∧ Aside (OwnEnts wr (w.heap.size + 2) (.slice A' k c') k es') ∧ Aside (es'.map EV.ent = (L.take k).map partE) ∧ Aside (Below (w.heap.size + 2) (WX w (.slice A' k c')) wr)) (fun i _ => m - (intOf i).toNat)
  case atStart => exact ⟨0, none, 0, [], Nat.zero_le _, rfl, HO0.out, rfl, Below.refl _ _⟩
  case round =>
    obtain ⟨k, A', c', es', hk, rfl, ho, hmap, hb⟩ := hrel
    have HBW := Lib.hid ((WX_bel w (.slice A' k c')).trans (hb.out.mono (by omega)))
    by_cases hlt : k < m
    · obtain ⟨b', off', hA, hbB', hl, c0, c1, c2, hS⟩ := (HH.out.below (HBW.out.mono HB.out)).at_ (k := k) (by omega)
      injection hA with hA
      injection hA with hA1 hA2
      subst hA1 hA2
      have hse := HS.out.ents _ (List.getElem_mem hl)
      have HM := Lib.hid (show (L.take (k + 1)).map partE = (L.take k).map partE ++ [partE es[k].ent] by
        rw [List.take_succ_eq_append_getElem (by rw [HLL.out, List.length_map]; exact hl), List.map_append]
        simp only [HLL.out, List.getElem_map]
        rfl)
      generalize es[k] = e at *
      have hen : e.n ≤ 1000000000 := by have := hS.len; simp at this; omega
      obtain ⟨w3, g3, c3, A6, c6, w6, S⟩ := sys_put ho.out hb.out e hS (Nat.le_trans HB.out HBW.out.size) (by omega) hen
      have HR3 := Lib.hid S.r3
      have HR6 := Lib.hid S.r6
      have HO6 := Lib.hid S.own
      have HB6 := Lib.hid S.bel
      have hTP : ∀ W : World, Calls Tryz.prog 64 #[.string ⟨e.path.toArray⟩, .string ⟨#[101, 116, 99, 47]⟩] W fun e1 W' => e1 = .returned (.string ⟨(trimE e.path).toArray⟩) ∧ W' = W := fun W => HTP.out e.path W
      have HTP := Lib.hid hTP
      have HKP := Lib.hid (fun (W' : World) (h8 : Blk W' wr.heap.size 35 #[.string ⟨e.path.toArray⟩, .int .i64 e.kind, .slice e.A e.n e.c]) (h9 : Blk W' (w.heap.size + 1) 26 #[.slice A' k c', .slice none 0 0, .slice none 0 0]) => show W'.cell? ⟨wr.heap.size, 0, none⟩ = some (.string ⟨e.path.toArray⟩) ∧ W'.cell? ⟨wr.heap.size, 1, none⟩ = some (.int .i64 e.kind) ∧ W'.cell? ⟨wr.heap.size, 2, none⟩ = some (.slice e.A e.n e.c) ∧ W'.cell? ⟨w.heap.size + 1, 0, none⟩ = some (.slice A' k c') from ⟨h8.cell 0, h8.cell 1, h8.cell 2, h9.cell 0⟩)
      have hX : Blk wr (w.heap.size + 1) 26 #[.slice A' k c', .slice none 0 0, .slice none 0 0] := (WX_box w _).below hb.out (by omega)
      have hE := Blk.new wr 35 #[.string ⟨e.path.toArray⟩, .int .i64 e.kind, .slice e.A e.n e.c]
      have HK0 := Lib.hid (HKP.out _ hE.drew (hX.alloc _).drew)
      have HKX := Lib.hid (HKP.out _ (hE.alloc (.cells #[] 5)).drew ((hX.alloc _).alloc (.cells #[] 5)).drew)
      have HK3 := Lib.hid (HKP.out _ S.s3.1 S.s3.2)
      have HK3X := Lib.hid (HKP.out _ (S.s3.1.alloc (.cells #[.string ⟨(trimE e.path).toArray⟩, .int .i64 e.kind, .slice (some ⟨g3, 0, none⟩) e.n c3] 35)) (S.s3.2.alloc _))
      have HK6 := Lib.hid (HKP.out _ S.s6.1 S.s6.2)
      have f6 := S.s6.2.frozen 0
      clear S hX hE hS hTP hse
      go_upto_region 7 with (fail)
      refine wp_region_K (fun W' => W'.cell? ⟨wr.heap.size, 0, none⟩ = some (.string ⟨e.path.toArray⟩) ∧ W'.cell? ⟨wr.heap.size, 1, none⟩ = some (.int .i64 e.kind) ∧ W'.cell? ⟨wr.heap.size, 2, none⟩ = some (.slice e.A e.n e.c) ∧ W'.cell? ⟨w.heap.size + 1, 0, none⟩ = some (.slice A' k c')) 15 (by kernel_rfl) HK0.out (fun hS9 => ?_)
      try simp only [Act.put, List.setIfInBounds_toArray, List.set_cons_zero, List.set_cons_succ]
      refine wpAnyK_take (i := 0) (v := ?_) [1, 13, 15] rfl (by kernel_rfl) (fun c9 _ w9 h9 => (HQ2.out c9 _ w9 h9).elim) (Or.inl ⟨by rfl, ?_⟩) (by assumption) ?_
      rotate_left
      focus (intro w9 hSw; (try dsimp only at hSw); go_simp; (try with_reducible rfl))
      try simp only [Act.put, List.setIfInBounds_toArray, List.set_cons_zero, List.set_cons_succ]
      refine wpAnyK_take (i := 1) (v := ?_) [13, 15] rfl (by kernel_rfl) (fun c9 _ w9 h9 => (HQ2.out c9 _ w9 h9).elim) (Or.inl ⟨by rfl, ?_⟩) (by assumption) ?_
      rotate_left
      focus (intro w9 hSw; (try dsimp only at hSw); go_simp; (try with_reducible rfl))
      try simp only [Act.put, List.setIfInBounds_toArray, List.set_cons_zero, List.set_cons_succ]
      refine wpAnyK_take (i := 2) (v := ?_) [3, 4, 11, 12, 13, 15] rfl (by kernel_rfl) (fun c9 _ w9 h9 => (HQ2.out c9 _ w9 h9).elim) (Or.inl ⟨by rfl, ?_⟩) (by assumption) ?_
      rotate_left
      focus (intro w9 hSw; (try dsimp only at hSw); go_simp; (try with_reducible rfl))
      try simp only [Act.put, List.setIfInBounds_toArray, List.set_cons_zero, List.set_cons_succ]
      refine wpAnyK_take (i := 3) (v := ?_) [4, 11, 12, 13, 15] rfl (by kernel_rfl) (fun c9 _ w9 h9 => (HQ2.out c9 _ w9 h9).elim) (Or.inl ⟨by rfl, ?_⟩) (by assumption) ?_
      rotate_left
      focus (intro w9 hSw; (try dsimp only at hSw); go_simp; (try with_reducible rfl))
      try simp only [Act.put, List.setIfInBounds_toArray, List.set_cons_zero, List.set_cons_succ]
      refine wpAnyK_take (i := 5) (v := ?_) [6, 11, 12, 13, 15] rfl (by kernel_rfl) (fun c9 _ w9 h9 => (HQ2.out c9 _ w9 h9).elim) (Or.inl ⟨by rfl, ?_⟩) (by assumption) ?_
      rotate_left
      focus (intro w9 hSw; (try dsimp only at hSw); go_simp; (try with_reducible rfl))
      try simp only [Act.put, List.setIfInBounds_toArray, List.set_cons_zero, List.set_cons_succ]
      refine wpAnyK_take (i := 6) (v := ?_) [11, 12, 13, 15] rfl (by kernel_rfl) (fun c9 _ w9 h9 => (HQ2.out c9 _ w9 h9).elim) (Or.inl ⟨by rfl, ?_⟩) (by assumption) ?_
      rotate_left
      focus (intro w9 hSw; (try dsimp only at hSw); go_simp; (try with_reducible rfl))
      try simp only [Act.put, List.setIfInBounds_toArray, List.set_cons_zero, List.set_cons_succ]
      refine wpAnyK_take (i := 8) (v := ?_) [9, 10, 11, 12, 13, 15] rfl (by kernel_rfl) (fun c9 _ w9 h9 => (HQ2.out c9 _ w9 h9).elim) (Or.inl ⟨by rfl, ?_⟩) (by assumption) ?_
      rotate_left
      focus (intro w9 hSw; (try dsimp only at hSw); go_simp; (try with_reducible rfl))
      try simp only [Act.put, List.setIfInBounds_toArray, List.set_cons_zero, List.set_cons_succ]
      refine wpAnyK_take (i := 9) (v := ?_) [10, 11, 12, 13, 15] rfl (by kernel_rfl) (fun c9 _ w9 h9 => (HQ2.out c9 _ w9 h9).elim) (Or.inl ⟨by rfl, ?_⟩) (by assumption) ?_
      rotate_left
      focus (intro w9 hSw; (try dsimp only at hSw); go_simp; (try with_reducible rfl))
      try simp only [Act.put, List.setIfInBounds_toArray, List.set_cons_zero, List.set_cons_succ]
      refine wpAnyK_two (i := 4) (i' := 7) (by kernel_rfl) rfl rfl (fun K9 hK9 => ?_) (fun K9 hK9 => ?_)
      · (go_simp; go_at_call 64; refine (HTP.out _).mono ?_; rintro e4 w4 ⟨rfl, hw4⟩; obtain rfl := hw4.symm)
        refine hK9.out _ _ (fun _ => hS9) (fun hS9 => ?_)
        replace hS9 := hS9 (by decide)
        try dsimp only at hS9
        try simp only [Act.put, List.setIfInBounds_toArray, List.set_cons_zero, List.set_cons_succ]
        refine wpAnyK_one (i := 7) (by kernel_rfl) rfl (fun K9 hK9 => ?_)
        go_simp
        refine hK9.out _ _ (fun _ => HKX.out) (fun hS9 => ?_)
        replace hS9 := hS9 (by decide)
        try dsimp only at hS9
        try simp only [Act.put, List.setIfInBounds_toArray, List.set_cons_zero, List.set_cons_succ]
        refine wpAnyK_one (i := 10) (by kernel_rfl) rfl (fun K9 hK9 => ?_)
        refine step_append_at (by rfl) _ _ _ (by rfl) HR3.out (by with_reducible rfl) (by rfl) (by rfl) (by rfl) ?_
        refine hK9.out _ _ (fun _ => HK3.out) (fun hS9 => ?_)
        replace hS9 := hS9 (by decide)
        try dsimp only at hS9
        try simp only [Act.put, List.setIfInBounds_toArray, List.set_cons_zero, List.set_cons_succ]
        refine wpAnyK_one (i := 11) (by kernel_rfl) rfl (fun K9 hK9 => ?_)
        go_simp
        refine hK9.out _ _ (fun _ => hS9) (fun hS9 => ?_)
        replace hS9 := hS9 (by decide)
        try dsimp only at hS9
        try simp only [Act.put, List.setIfInBounds_toArray, List.set_cons_zero, List.set_cons_succ]
        refine wpAnyK_one (i := 12) (by kernel_rfl) rfl (fun K9 hK9 => ?_)
        go_simp
        refine hK9.out _ _ (fun _ => HK3X.out) (fun hS9 => ?_)
        replace hS9 := hS9 (by decide)
        try dsimp only at hS9
        try simp only [Act.put, List.setIfInBounds_toArray, List.set_cons_zero, List.set_cons_succ]
        refine wpAnyK_one (i := 13) (by kernel_rfl) rfl (fun K9 hK9 => ?_)
        refine step_append_at (by rfl) _ _ _ (by rfl) HR6.out (by with_reducible rfl) (by rfl) (by rfl) (by rfl) ?_
        refine hK9.out _ _ (fun _ => HK6.out) (fun hS9 => ?_)
        replace hS9 := hS9 (by decide)
        try dsimp only at hS9
        try simp only [Act.put, List.setIfInBounds_toArray, List.set_cons_zero, List.set_cons_succ]
        refine wpAnyK_one (i := 14) (by kernel_rfl) rfl (fun K9 hK9 => ?_)
        go_simp
        refine hK9.out _ _ (fun _ => hS9) (fun hS9 => ?_)
        replace hS9 := hS9 (by decide)
        try dsimp only at hS9
        try simp only [Act.put, List.setIfInBounds_toArray, List.set_cons_zero, List.set_cons_succ]
        refine wpAnyK_one (i := 15) (by kernel_rfl) rfl (fun K9 hK9 => ?_)
        go_simp
        refine hK9.out _ _ (fun h9 => absurd rfl h9) (fun hS9 => ?_)
        try simp only [Act.put, List.setIfInBounds_toArray, List.set_cons_zero, List.set_cons_succ]
        refine wpAnyK_done (by kernel_rfl) ?_ _
        go_wp2_with (fail)
        exact ⟨⟨k + 1, A6, c6, _, by omega, by go_num, HO6.out, (show (_ : List Ent) = _ by rw [HM.out, ← hmap.out, List.map_append]; rfl), HB6.out⟩, by simp [intOf]; omega⟩
      · go_simp
        refine hK9.out _ _ (fun _ => HKX.out) (fun hS9 => ?_)
        replace hS9 := hS9 (by decide)
        try dsimp only at hS9
        try simp only [Act.put, List.setIfInBounds_toArray, List.set_cons_zero, List.set_cons_succ]
        refine wpAnyK_one (i := 4) (by kernel_rfl) rfl (fun K9 hK9 => ?_)
        (go_simp; go_at_call 64; refine (HTP.out _).mono ?_; rintro e4 w4 ⟨rfl, hw4⟩; obtain rfl := hw4.symm)
        refine hK9.out _ _ (fun _ => hS9) (fun hS9 => ?_)
        replace hS9 := hS9 (by decide)
        try dsimp only at hS9
        try simp only [Act.put, List.setIfInBounds_toArray, List.set_cons_zero, List.set_cons_succ]
        refine wpAnyK_one (i := 10) (by kernel_rfl) rfl (fun K9 hK9 => ?_)
        refine step_append_at (by rfl) _ _ _ (by rfl) HR3.out (by with_reducible rfl) (by rfl) (by rfl) (by rfl) ?_
        refine hK9.out _ _ (fun _ => HK3.out) (fun hS9 => ?_)
        replace hS9 := hS9 (by decide)
        try dsimp only at hS9
        try simp only [Act.put, List.setIfInBounds_toArray, List.set_cons_zero, List.set_cons_succ]
        refine wpAnyK_one (i := 11) (by kernel_rfl) rfl (fun K9 hK9 => ?_)
        go_simp
        refine hK9.out _ _ (fun _ => hS9) (fun hS9 => ?_)
        replace hS9 := hS9 (by decide)
        try dsimp only at hS9
        try simp only [Act.put, List.setIfInBounds_toArray, List.set_cons_zero, List.set_cons_succ]
        refine wpAnyK_one (i := 12) (by kernel_rfl) rfl (fun K9 hK9 => ?_)
        go_simp
        refine hK9.out _ _ (fun _ => HK3X.out) (fun hS9 => ?_)
        replace hS9 := hS9 (by decide)
        try dsimp only at hS9
        try simp only [Act.put, List.setIfInBounds_toArray, List.set_cons_zero, List.set_cons_succ]
        refine wpAnyK_one (i := 13) (by kernel_rfl) rfl (fun K9 hK9 => ?_)
        refine step_append_at (by rfl) _ _ _ (by rfl) HR6.out (by with_reducible rfl) (by rfl) (by rfl) (by rfl) ?_
        refine hK9.out _ _ (fun _ => HK6.out) (fun hS9 => ?_)
        replace hS9 := hS9 (by decide)
        try dsimp only at hS9
        try simp only [Act.put, List.setIfInBounds_toArray, List.set_cons_zero, List.set_cons_succ]
        refine wpAnyK_one (i := 14) (by kernel_rfl) rfl (fun K9 hK9 => ?_)
        go_simp
        refine hK9.out _ _ (fun _ => hS9) (fun hS9 => ?_)
        replace hS9 := hS9 (by decide)
        try dsimp only at hS9
        try simp only [Act.put, List.setIfInBounds_toArray, List.set_cons_zero, List.set_cons_succ]
        refine wpAnyK_one (i := 15) (by kernel_rfl) rfl (fun K9 hK9 => ?_)
        go_simp
        refine hK9.out _ _ (fun h9 => absurd rfl h9) (fun hS9 => ?_)
        try simp only [Act.put, List.setIfInBounds_toArray, List.set_cons_zero, List.set_cons_succ]
        refine wpAnyK_done (by kernel_rfl) ?_ _
        go_wp2_with (fail)
        exact ⟨⟨k + 1, A6, c6, _, by omega, by go_num, HO6.out, (show (_ : List Ent) = _ by rw [HM.out, ← hmap.out, List.map_append]; rfl), HB6.out⟩, by simp [intOf]; omega⟩
    · obtain rfl : k = m := by omega
      obtain ⟨b', off', hA, hbB', hl, c0, c1, c2, hS⟩ := (HH.out.below (HBW.out.mono HB.out)).at_ (k := k) (by omega)
      injection hA with hA
      injection hA with hA1 hA2
      subst hA1 hA2
      have hdd : es[k].data = data := HDT.out.symm
      have hcv := convert_bytes (P := Tryz.prog) (src := 33) Tryz.underlying33 Tryz.underlying5 hS 9 Tryz.underlying9
      rw [hdd] at hcv
      obtain ⟨FS, hFS⟩ : ∃ FS, FS = L.dropLast.map partE := ⟨_, rfl⟩
      have HFS := Lib.hid hFS
      have HMP := Lib.hid (show es'.map EV.ent = FS by rw [hmap.out, hFS, HDL.out])
      have HOE := Lib.hid ho.out
      have HBE := Lib.hid hb.out
      have hsz : w.heap.size + 2 ≤ wr.heap.size := by have := hb.out.size; rw [WX_size] at this; exact this
      have HSB := Lib.hid (show ∀ e ∈ es', e.path.length ≤ 1048576 ∧ e.data.length ≤ 1048576 from fun e he => by
        have hm : e.ent ∈ (L.take k).map partE := by rw [← hmap.out]; exact List.mem_map.2 ⟨e, he, rfl⟩
        obtain ⟨x0, hx0, hxe⟩ := List.mem_map.1 hm
        have hx1 := List.mem_of_mem_take hx0
        rw [HLL.out] at hx1
        obtain ⟨e1, he1, rfl⟩ := List.mem_map.1 hx1
        have h1 := HS.out.ents e1 he1
        have p1 : e.path = trimE e1.path := (congrArg Ent.path hxe).symm
        have p2 : e.data = e1.data := (congrArg Ent.data hxe).symm
        rw [p1, p2]
        refine ⟨?_, h1.2⟩
        unfold trimE
        split
        · rw [List.length_drop]; exact Nat.le_trans (Nat.sub_le _ _) h1.1
        · exact h1.1)
      clear hmap ho hb hdd hFS hS
      generalize es[k] = e at *
      go_wp2_with (go_at_call 65; refine (split10_any _ _).mono ?_; rintro e5 w5 ⟨rfl, rfl⟩)
      obtain ⟨s1, s2, s3, sb, sz⟩ := splitW10_facts wr ⟨data.toArray⟩
      obtain ⟨w5, hw5⟩ : ∃ w5, w5 = splitW10 wr ⟨data.toArray⟩ := ⟨_, rfl⟩
      rw [← hw5] at s1 s2 s3 sb sz ⊢
      have hbox5 : Blk w5 (w.heap.size + 1) 26 #[.slice A' k c', .slice none 0 0, .slice none 0 0] := ((WX_box w _).below HBE.out (by omega)).below sb (by omega)
      have hres5 : Blk w5 w.heap.size 26 #[.slice none 0 0, .slice none 0 0, .slice none 0 0] := ((WX_res w _).below HBE.out (by omega)).below sb (by omega)
      have HR5 := Lib.hid hres5
      have HI0 := Lib.hid (show SysAt w5 (fun q => q = w.heap.size + 1 ∨ q = wr.heap.size) (w.heap.size + 1) (w5.heap.size + 2) (.slice A' k c') ([].foldl sysLine ⟨FS, [], []⟩) w5 from SysAt.begin hbox5 (.inl rfl) (by omega))
      have HB5 := Lib.hid (show Below w.heap.size w w5 from HBW.out.trans (sb.mono HBW.out.size))
      have HSB5 := Lib.hid sb
      have S1 := Lib.hid s1
      have S2 := Lib.hid s2
      have S3 := Lib.hid s3
      have HZ5 := Lib.hid sz
      have HSZR := Lib.hid hsz
      clear s1 s2 s3 sb sz hbox5 hres5 hw5 hcv c0 c1 c2 hsz
      refine (wpIn_wide (n := 8)).1 ?_
      refine range_cell (α := Txt) rfl (by omega) (gf := 121) (lb := #[.pointer (some ⟨wr.heap.size + 1, 0, none⟩), .pointer (some ⟨wr.heap.size, 0, none⟩), .pointer (some ⟨wr.heap.size + 2, 0, none⟩)]) rfl trivial (enters_of Tryz.func121 (by kernel_rfl) rfl)
        (enc := fun x : Txt => #[.string ⟨x.toArray⟩]) (Kp := Kp3 wr.heap.size (wr.heap.size + 1) (wr.heap.size + 2)) (S := fun xs => xs = splitN 10 data) (Sp := fun pre => pre <+: splitN 10 data) (bs := wr.heap.size)
        (fun W hW => splitseq10_in 7 (by omega) wr.heap.size (wr.heap.size + 1) (wr.heap.size + 2) (by omega) (by omega) data (by omega) W (S1.out.below hW S1.out.lt) (S2.out.below hW S2.out.lt) (S3.out.below hW S3.out.lt))
        (by have := HZ5.out; omega) (fun h k => h.trans k) (fun A o => ⟨World.putObj_heap_other (by have := HZ5.out; omega), World.putObj_heap_other (by have := HZ5.out; omega), World.putObj_heap_other (by have := HZ5.out; omega)⟩) (fun _ => rfl)
        (fun pre W => SysAt w5 (fun q => q = w.heap.size + 1 ∨ q = wr.heap.size) (w.heap.size + 1) (w5.heap.size + 2) (.slice A' k c') (pre.foldl sysLine ⟨FS, [], []⟩) W) (fun _ _ => False) (fun s A o h => h.below (bel_new _ _)) (fun s A o _ h => h.apart (step_put A _ o) (fun q hq => by have := HZ5.out; have := HSZR.out; subst hq; exact ⟨by omega, by omega, .inr (by omega)⟩))
        (fun s A v h => h.apart (step_setC A ⟨wr.heap.size, 0, none⟩ v) (fun q hq => by have := HZ5.out; have := HSZR.out; subst hq; exact ⟨by simp only; omega, by simp only; omega, .inl (.inr rfl)⟩)) (fun s A h => h.below (Below.refl _ _).drew) (fun s A o _ h => h.elim) HI0.out
        ?act ?assign ?body ?done ?stop
      case assign =>
        intro l x W K hK
        gi_wp2
        exact hK
      case body =>
        intro l pre x W hI hS hlt
        have hxl := split_mem (hS.subset (show x ∈ pre ++ [x] by simp))
        have hcut := cutS_any 32 x (by omega) W
        have hlp : lenL pre ≤ 1048576 := by have h1 := split_pre hS; rw [lenL_append] at h1; omega
        have hcap := CapS.fold pre (CapS.nil FS 1048576) (fun t ht => Nat.le_trans (split_mem (hS.subset (List.mem_append.2 (.inl ht)))) hdl)
        have HFX := Lib.hid (fold_snoc pre x ⟨FS, [], []⟩)
        generalize pre.foldl sysLine ⟨FS, [], []⟩ = st at *
        obtain ⟨F, A2, n2, c2, users, A3, n3, c3, us, hSI, hu, hus⟩ := hI
        have hn2 : n2 ≤ 1048576 := by have h1 := hSI.users.own.1; have h2 := hcap.users; rw [← hu] at h2; simp at h1; omega
        have hn3 : n3 ≤ 1048576 := by have h1 := hSI.units.own.len; have h2 := hcap.units; rw [← hus, List.length_map] at h2; omega
        have HCP := Lib.hid hcap
        have HSI := Lib.hid hSI
        have HU := Lib.hid hu
        have HUS := Lib.hid hus
        have HZR := Lib.hid (And.intro HZ5.out HSZR.out)
        have hwd : frontT 32 x = wordT x := rfl
        have hrd : afterT 32 x = behindT x := rfl
        rw [hwd, hrd] at hcut
        have hHW : w5.heap.size + 2 ≤ W.heap.size := hlt
        clear hwd hrd hcap hSI hu hus hS
        by_cases hw1 : wordT x = wUser
        · have HL := Lib.hid (line_is_user (s := st) hw1)
          rw [hw1] at hcut
          unfold wUser at hcut
          generalize behindT x = r at *
          clear hw1
          gi_wp2_with (first
            | (refine ⟨trivial, ?_⟩; gi_at_call 66; refine (CallsIn.inRound l (callsIn_wide.2 hcut)).mono ?_; clear hcut; rintro e6 w6 ⟨⟨bb, rfl⟩, q, hw6⟩; have h6 := HSI.out.below (show Below W.heap.size W w6 by rw [hw6]; exact bel_drewN (Below.refl _ _) q); have hz6 : W.heap.size ≤ w6.heap.size := (by rw [hw6]; exact Nat.le_refl _); have HLK := Lib.hid (LowK.drewN (H := w5.heap.size + 2) (sB := w.heap.size + 1) hw6); clear hw6; have u1 := h6.box.cell 1; simp only [List.getElem?_toArray, List.getElem?_cons_zero, List.getElem?_cons_succ] at u1; obtain ⟨A8, c8, w8, hrun, cc, ff, hz8, hS8, hst8⟩ := h6.user (Nat.le_trans hHW hz6) r (Nat.le_trans hn2 (by decide)); have HS8 := Lib.hid hS8; have HLK8 := Lib.hid (HLK.out.trans (LowK.of hst8 (fun k hk => hk.1) (Nat.le_trans hHW hz6))); clear hS8 hst8 h6 hz8)
            | (gi_at_builtin; refine wpListIn_append_run rfl _ _ _ rfl rfl rfl hrun ?_; clear hrun))
          exact ⟨(HLK8.out.set 1 _).rec_ (by omega) (by have := HZR.out; omega), (HLK8.out.set 1 _).kp (by have := HZR.out; omega) (by have := HZR.out; omega) (by have := HZR.out; omega) (by have := HZR.out; omega) (by have := HZR.out; omega) (by have := HZR.out; omega), F, A8, n2 + 1, c8, users ++ [r], A3, n3, c3, us, HS8.out, by rw [HFX.out, HL.out, HU.out], by rw [HFX.out, HL.out, HUS.out]⟩
        by_cases hw2 : wordT x = wUnit
        · have HL := Lib.hid (line_is_unit (s := st) hw1 hw2)
          rw [hw2] at hcut
          unfold wUnit at hcut
          generalize behindT x = r at *
          clear hw1 hw2
          gi_wp2_with (first
            | (refine ⟨trivial, ?_⟩; gi_at_call 66; refine (CallsIn.inRound l (callsIn_wide.2 hcut)).mono ?_; clear hcut; rintro e6 w6 ⟨⟨bb, rfl⟩, q, hw6⟩; have h6 := HSI.out.below (show Below W.heap.size W w6 by rw [hw6]; exact bel_drewN (Below.refl _ _) q); have hz6 : W.heap.size ≤ w6.heap.size := (by rw [hw6]; exact Nat.le_refl _); have HLK := Lib.hid (LowK.drewN (H := w5.heap.size + 2) (sB := w.heap.size + 1) hw6); clear hw6; have u2 := h6.box.cell 2; simp only [List.getElem?_toArray, List.getElem?_cons_zero, List.getElem?_cons_succ] at u2; obtain ⟨A8, c8, w8, hrun, cc, ff, hz8, hS8, hst8⟩ := h6.unit (Nat.le_trans hHW hz6) r (Nat.le_trans hn3 (by decide)); have HS8 := Lib.hid hS8; have HLK8 := Lib.hid (HLK.out.trans (LowK.of hst8 (fun k hk => (h6.foot k hk).1) (Nat.le_trans hHW hz6))); simp only [svArr] at hrun; clear hS8 hst8 h6 hz8)
            | (gi_at_builtin; refine wpListIn_append_run rfl _ _ _ rfl rfl rfl hrun ?_; clear hrun))
          exact ⟨(HLK8.out.set 2 _).rec_ (by omega) (by have := HZR.out; omega), (HLK8.out.set 2 _).kp (by have := HZR.out; omega) (by have := HZR.out; omega) (by have := HZR.out; omega) (by have := HZR.out; omega) (by have := HZR.out; omega) (by have := HZR.out; omega), _, A2, n2, c2, users, A8, n3 + 1, c8, us ++ [⟨r, [], [], none, 0, 0, [], none, 0, 0⟩], HS8.out, by rw [HFX.out, HL.out, HU.out], by rw [HFX.out, HL.out, List.map_append, HUS.out]; rfl⟩
        have ht : (ByteArray.mk (wordT x).toArray).toList = wordT x := Go.ByteArray.toList_eq _
        have e1 : (wordT x == [117, 115, 101, 114]) = false := by rw [beq_eq_false_iff_ne]; exact hw1
        have e2 : (wordT x == [117, 110, 105, 116]) = false := by rw [beq_eq_false_iff_ne]; exact hw2
        rcases List.eq_nil_or_concat us with hnil | ⟨mm, u, hcc⟩
        · subst hnil
          have HL := Lib.hid (line_is_none (s := st) hw1 hw2 (by rw [← HUS.out]; rfl))
          obtain rfl : n3 = 0 := by have := HSI.out.units.own.len; simpa using this.symm
          generalize behindT x = r at *
          generalize wordT x = wd at *
          clear hw1 hw2
          gi_wp2_with (refine ⟨trivial, ?_⟩; gi_at_call 66; refine (CallsIn.inRound l (callsIn_wide.2 hcut)).mono ?_; clear hcut; rintro e6 w6 ⟨⟨bb, rfl⟩, q, hw6⟩; have h6 := HSI.out.below (show Below W.heap.size W w6 by rw [hw6]; exact bel_drewN (Below.refl _ _) q); have HLK := Lib.hid (LowK.drewN (H := w5.heap.size + 2) (sB := w.heap.size + 1) hw6); clear hw6; have u2 := h6.box.cell 2; simp only [List.getElem?_toArray, List.getElem?_cons_zero, List.getElem?_cons_succ] at u2; have HS8 := Lib.hid h6; clear h6)
          exact ⟨HLK.out.rec_ (by omega) (by have := HZR.out; omega), HLK.out.kp (by have := HZR.out; omega) (by have := HZR.out; omega) (by have := HZR.out; omega) (by have := HZR.out; omega) (by have := HZR.out; omega) (by have := HZR.out; omega), F, A2, n2, c2, users, A3, 0, c3, [], HS8.out, by rw [HFX.out, HL.out, HU.out], by rw [HFX.out, HL.out, HUS.out]⟩
        · rw [List.concat_eq_append] at hcc
          subst hcc
          have HL := Lib.hid (line_is_more (s := st) (M := mm.map SV.srv) (u := u.srv) hw1 hw2 (by rw [← HUS.out, List.map_append]; rfl))
          obtain ⟨hnn, gg, hAA, -, -, -, -⟩ := HSI.out.units.last
          subst hnn hAA
          have hun : u.n ≤ 1000000000 ∧ u.n2 ≤ 1000000000 := by
            have hm9 : u.srv ∈ st.units := by rw [← HUS.out]; simp
            have h9 := HCP.out.lists _ hm9
            have q1 := (HSI.out.units.own.req u (by simp)).own.1
            have q2 := (HSI.out.units.own.aft u (by simp)).own.1
            have r1 : u.srv.req.length ≤ 0 + lenL pre := h9.1
            have r2 : u.srv.aft.length ≤ 0 + lenL pre := h9.2
            simp only [List.length_map, Nat.mul_one, SV.srv] at q1 q2 r1 r2
            omega
          have hgt : decide (((mm.length + 1 : Nat) : Int) > 0) = true := decide_eq_true (by omega)
          have hpu : ((mm.length + 1 : Nat) : Int) - 1 = (mm.length : Int) := by omega
          generalize behindT x = r at *
          generalize wordT x = wd at *
          clear hw1 hw2
          gi_wp2_with (first
            | (refine ⟨trivial, ?_⟩; gi_at_call 66; refine (CallsIn.inRound l (callsIn_wide.2 hcut)).mono ?_; clear hcut; rintro e6 w6 ⟨⟨bb, rfl⟩, q, hw6⟩; have h6 := HSI.out.below (show Below W.heap.size W w6 by rw [hw6]; exact bel_drewN (Below.refl _ _) q); have hz6 : W.heap.size ≤ w6.heap.size := (by rw [hw6]; exact Nat.le_refl _); have HLK := Lib.hid (LowK.drewN (H := w5.heap.size + 2) (sB := w.heap.size + 1) hw6); clear hw6; have u2 := h6.box.cell 2; simp only [List.getElem?_toArray, List.getElem?_cons_zero, List.getElem?_cons_succ] at u2; have hmo := more21_any h6.units wd r hun.1 hun.2; have HS6 := Lib.hid h6; clear h6)
            | (refine ⟨trivial, ?_⟩; gi_at_call 67; refine (CallsIn.inRound l (callsIn_wide.2 hmo)).mono ?_; clear hmo; rintro e7 w7 ⟨u', F', rfl, hsrv, -, -, hbu, hst7, hF7⟩; have HS7 := Lib.hid (HS6.out.more (Nat.le_trans hHW hz6) hbu hst7 hF7); have HLK7 := Lib.hid (HLK.out.trans (LowK.of hst7 (fun k hk => (HS6.out.foot k hk).1) (Nat.le_trans hHW hz6))); have HSR := Lib.hid hsrv; clear hsrv hbu hst7 hF7))
          exact ⟨HLK7.out.rec_ (by omega) (by have := HZR.out; omega), HLK7.out.kp (by have := HZR.out; omega) (by have := HZR.out; omega) (by have := HZR.out; omega) (by have := HZR.out; omega) (by have := HZR.out; omega) (by have := HZR.out; omega), F', A2, n2, c2, users, some ⟨gg, 0, none⟩, mm.length + 1, c3, mm ++ [u'], HS7.out, by rw [HFX.out, HL.out, HU.out], by rw [HFX.out, HL.out, List.map_append]; show _ ++ [u'.srv] = _; rw [HSR.out]⟩
      case done =>
        intro xs W hS hI hlt hK
        subst hS
        obtain ⟨F, A2, n2, c2, users, A3, n3, c3, us, hSI, hu, hus⟩ := hI
        have hfold : (splitN 10 data).foldl sysLine ⟨FS, [], []⟩ = partS L := by
          unfold partS sysText
          rw [HLD.out, ← HFS.out]
        have hcap0 := CapS.fold (splitN 10 data) (CapS.nil FS 1048576) (fun t ht => Nat.le_trans (split_mem ht) hdl)
        rw [hfold] at hu hus hcap0
        have hcap := hcap0.more (k' := 1048576) (by have := split_len 10 data; omega)
        have hpf : (partS L).files = FS := (part_files L).trans HFS.out.symm
        have hz5 := HZ5.out
        have hzr := HSZR.out
        have hlow : ∀ i, i < w5.heap.size → i ≠ w.heap.size + 1 → i ≠ wr.heap.size → W.heap[i]? = w5.heap[i]? := fun i h1 h2 h3 => hSI.step.block i h1 (fun hg => by rcases hg with hg | hg; exact h2 hg; exact h3 hg)
        have hlw : ∀ i, w.heap.size + 2 ≤ i → i < wr.heap.size → W.heap[i]? = wr.heap[i]? := fun i h1 h2 => (hlow i (by omega) (by omega) (by omega)).trans (HSB5.out.block i h2)
        have hown : OwnEnts W (w.heap.size + 2) (.slice A' k c') k es' := HOE.out.keepB (Nat.le_trans HSB5.out.size hSI.step.size) hlw
        have hobs : ObsAt W W.heap.size ⟨A', k, c', es', A2, n2, c2, users, A3, n3, c3, us⟩ := hSI.obs hown.ents
        have hsys : sysO ⟨A', k, c', es', A2, n2, c2, users, A3, n3, c3, us⟩ = partS L := by
          show (⟨es'.map EV.ent, users, us.map SV.srv⟩ : SysP) = partS L
          rw [HMP.out, hu, hus, ← hpf]
        have hl2 : n2 = users.length := by have := hSI.users.own.1; simp at this; omega
        have hl3 : n3 = us.length := hSI.units.own.len.symm
        have hsml : SmallO ⟨A', k, c', es', A2, n2, c2, users, A3, n3, c3, us⟩ := Capsmall hcap (Nat.le_refl _) hu hus HSB.out (by simp only; omega) hl2 hl3 (fun u hm => by
          have q1 := (hSI.units.own.req u hm).own.1
          have q2 := (hSI.units.own.aft u hm).own.1
          simp only [List.length_map, Nat.mul_one] at q1 q2
          exact ⟨q1.symm, q2.symm⟩)
        have hbw : Below w.heap.size w W := HB5.out.trans (hSI.step.below (B := w.heap.size) HB5.out.size (fun i hi => by rcases hi with hi | hi <;> omega))
        have hr := right21_any hobs (Nat.le_refl _) hsml
        rw [hsys] at hr
        have hres : Blk W w.heap.size 26 #[.slice none 0 0, .slice none 0 0, .slice none 0 0] := (hlow _ (by omega) (by omega) (by omega)).trans HR5.out
        have u0 := hSI.box.cell 0
        have u1 := hSI.box.cell 1
        have u2 := hSI.box.cell 2
        simp only [List.getElem?_toArray, List.getElem?_cons_zero, List.getElem?_cons_succ] at u0 u1 u2
        have HHO := Lib.hid (HH.out.below (hbw.mono HB.out))
        have HBWW := Lib.hid hbw
        have HRS := Lib.hid hres
        have HSI := Lib.hid hSI
        have HOB := Lib.hid hobs
        have HSM := Lib.hid hsml
        have HSY := Lib.hid hsys
        have HLW := Lib.hid hlw
        have HK := Lib.hid hK
        have HLB := Lib.hid (Nat.le_trans HB.out hbw.size)
        have hres2 : ∀ (W9 : World), Below W.heap.size W W9 → (Blk W9 w.heap.size 26 #[.slice none 0 0, .slice none 0 0, .slice none 0 0] ∧ W9.heap[w5.heap.size]? = some (.deferred (some [])) ∧ Below w.heap.size w W9) := fun W9 h9 => ⟨hres.below h9 hres.lt, (h9.block _ (by omega)).trans hK, hbw.trans (h9.mono hbw.size)⟩
        have HRS2 := Lib.hid hres2
        have hput : ∀ (W9 : World) (a b c : Value), Below W.heap.size W W9 → ((put3W W9 w.heap.size a b c).heap[w5.heap.size]? = some (.deferred (some [])) ∧ Blk ((put3W W9 w.heap.size a b c).putObj w5.heap.size (.deferred none)) w.heap.size 26 #[a, b, c] ∧ Below w.heap.size w ((put3W W9 w.heap.size a b c).putObj w5.heap.size (.deferred none))) := fun W9 a b c h9 => by
          obtain ⟨q1, q2, q3⟩ := HRS2.out W9 h9
          have hs9 := put3_step W9 w.heap.size a b c
          have hm : W.heap.size ≤ W9.heap.size := h9.size
          refine ⟨(hs9.block _ (by omega) (by omega)).trans q2, blk_put (put3_blk q1 a b c) (by omega) _, ?_⟩
          exact below_put (q3.trans (hs9.below (B := w.heap.size) (by omega) (fun i hi => by omega))) (by omega) _
        have HPT := Lib.hid hput
        cases hrt : rightS (partS L) with
        | false =>
          rw [hrt] at hr
          unfold ovArr at hr
          simp only at hr
          have HN := Lib.hid (sys_none (L := L) (.inl hrt))
          clear hSI hu hus hfold hcap0 hcap hpf hlow hlw hown hobs hsys hl2 hl3 hsml hbw hres hrt hres2 hput hK hz5 hzr
          go_wp2_with (go_at_call 15; refine hr.mono ?_; clear hr; rintro e7 w7 ⟨rfl, hb7⟩; have h7 := (HRS2.out _ hb7).1; have y0 := h7.cell 0; have y1 := h7.cell 1; have y2 := h7.cell 2; have f0 := h7.frozen 0; have f1 := h7.frozen 1; have f2 := h7.frozen 2; simp only [List.getElem?_toArray, List.getElem?_cons_zero, List.getElem?_cons_succ] at y0 y1 y2; have HB7 := Lib.hid hb7; clear hb7 h7)
          obtain ⟨p1, p2, p3⟩ := HPT.out w7 (.slice none 0 0) (.slice none 0 0) (.slice none 0 0) HB7.out
          refine HQ1.out _ _ _ p1 ?_
          exact ⟨_, results_aggr2 (t := 2) (g := w.heap.size) rfl rfl Tryz.isAgg26 Tryz.sizeOf26 rfl p2, SysPost.none_ HN.out p3⟩
        | true =>
          have hrp := right_parts hrt
          have hq2 : n2 ≤ 16 := by rw [hl2, hu]; exact hrp.2.1
          have hq3 : n3 ≤ 24 := by have := hrp.2.2.1; rw [← hus, List.length_map] at this; omega
          have HENT := Lib.hid (fun (W' : World) (hW : Below W.heap.size W W') => entries21_any (HOB.out.below hW) hW.size HSM.out hq2 hq3)
          have HBXC := Lib.hid (fun (W' : World) (hW : Below W.heap.size W W') => show W'.cell? ⟨w.heap.size + 1, 0, none⟩ = some (.slice A' k c') ∧ W'.cell? ⟨w.heap.size + 1, 1, none⟩ = some (.slice A2 n2 c2) ∧ W'.cell? ⟨w.heap.size + 1, 2, none⟩ = some (.slice A3 n3 c3) from
            have h9 := HSI.out.box.below hW HSI.out.box.lt
            ⟨h9.cell 0, h9.cell 1, h9.cell 2⟩)
          rw [hrt] at hr
          have HRT := Lib.hid hrt
          unfold ovArr at hr HENT
          simp only at hr HENT
          clear hSI hu hus hfold hcap0 hcap hpf hlow hlw hown hobs hsys hl2 hl3 hsml hbw hres hrt hres2 hput hK hrp hz5 hzr
          by_cases hlq : laidS (partS L) = L
          · have HSOM := Lib.hid (sys_some HNE.out HRT.out hlq)
            have HLQ := Lib.hid hlq
            clear hlq
            go_wp2_with (first
              | (go_at_call 15; refine hr.mono ?_; clear hr; rintro e7 w7 ⟨rfl, hb7⟩; obtain ⟨v0, v1, v2⟩ := HBXC.out _ hb7; have hen := HENT.out _ hb7; have HB7 := Lib.hid hb7; clear hb7)
              | (go_at_call 37; refine hen.mono ?_; clear hen; rintro e8 w8 ⟨A8, n8, c8, es8, fs8, x8, rfl, hfs8, hm8, hl8, hd8, hb8⟩; have hb8' := HB7.out.trans (hb8.mono HB7.out.size); have heq := eqE21_any hl8.ents (HHO.out.below (hb8'.mono HLB.out)) (Nat.le_refl _) (Nat.le_trans HLB.out hb8'.size); rw [hm8, HSY.out, ← HLL.out, decide_eq_true HLQ.out] at heq; have HB8 := Lib.hid hb8'; clear hfs8 hm8 hl8 hd8 hb8 hb8')
              | (go_at_call 47; refine heq.mono ?_; clear heq; rintro e9 w9 ⟨rfl, hb9⟩; have hb9' := HB8.out.trans (hb9.mono HB8.out.size); obtain ⟨z0, z1, z2⟩ := HBXC.out _ hb9'; have h7 := (HRS2.out _ hb9').1; have y0 := h7.cell 0; have y1 := h7.cell 1; have y2 := h7.cell 2; have f0 := h7.frozen 0; have f1 := h7.frozen 1; have f2 := h7.frozen 2; simp only [List.getElem?_toArray, List.getElem?_cons_zero, List.getElem?_cons_succ] at y0 y1 y2; have HB9 := Lib.hid hb9'; clear hb9 hb9' h7))
            obtain ⟨p1, p2, p3⟩ := HPT.out w9 (.slice A' k c') (.slice A2 n2 c2) (.slice A3 n3 c3) HB9.out
            refine HQ1.out _ _ _ p1 ?_
            refine ⟨_, results_aggr2 (t := 2) (g := w.heap.size) rfl rfl Tryz.isAgg26 Tryz.sizeOf26 rfl p2, SysPost.some_ (o := ⟨A', k, c', es', A2, n2, c2, users, A3, n3, c3, us⟩) (by rw [HSY.out]; exact HSOM.out) ?_ p3⟩
            have hz5 := HZ5.out
            have hzr := HSZR.out
            have hf := ((HSI.out.below HB9.out).put3 (R := w.heap.size) (by omega) (by omega) (.slice A' k c') (.slice A2 n2 c2) (.slice A3 n3 c3)).put_ (D := w5.heap.size) (by omega) (by omega) (Nat.le_refl _) (.deferred none)
            refine hf.obs (OwnEnts.ents (base := w.heap.size + 2) (HOE.out.keepB ?_ (fun i h1 h2 => ?_)))
            · have := HB9.out.size
              have := HSI.out.step.size
              simp only [World.putObj, put3W, World.size_setCell, Array.size_setIfInBounds]
              omega
            · rw [World.putObj_heap_other (by omega), (put3_step w9 w.heap.size _ _ _).block i (by have := HB9.out.size; have := HSI.out.step.size; omega) (by omega), HB9.out.block i (by have := HSI.out.step.size; omega)]
              exact HLW.out i h1 h2
          · have HN := Lib.hid (sys_none (L := L) (.inr hlq))
            have HLQ := Lib.hid hlq
            clear hlq
            go_wp2_with (first
              | (go_at_call 15; refine hr.mono ?_; clear hr; rintro e7 w7 ⟨rfl, hb7⟩; obtain ⟨v0, v1, v2⟩ := HBXC.out _ hb7; have hen := HENT.out _ hb7; have HB7 := Lib.hid hb7; clear hb7)
              | (go_at_call 37; refine hen.mono ?_; clear hen; rintro e8 w8 ⟨A8, n8, c8, es8, fs8, x8, rfl, hfs8, hm8, hl8, hd8, hb8⟩; have hb8' := HB7.out.trans (hb8.mono HB7.out.size); have heq := eqE21_any hl8.ents (HHO.out.below (hb8'.mono HLB.out)) (Nat.le_refl _) (Nat.le_trans HLB.out hb8'.size); rw [hm8, HSY.out, ← HLL.out, decide_eq_false HLQ.out] at heq; have HB8 := Lib.hid hb8'; clear hfs8 hm8 hl8 hd8 hb8 hb8')
              | (go_at_call 47; refine heq.mono ?_; clear heq; rintro e9 w9 ⟨rfl, hb9⟩; have hb9' := HB8.out.trans (hb9.mono HB8.out.size); have h7 := (HRS2.out _ hb9').1; have y0 := h7.cell 0; have y1 := h7.cell 1; have y2 := h7.cell 2; have f0 := h7.frozen 0; have f1 := h7.frozen 1; have f2 := h7.frozen 2; simp only [List.getElem?_toArray, List.getElem?_cons_zero, List.getElem?_cons_succ] at y0 y1 y2; have HB9 := Lib.hid hb9'; clear hb9 hb9' h7))
            obtain ⟨p1, p2, p3⟩ := HPT.out w9 (.slice none 0 0) (.slice none 0 0) (.slice none 0 0) HB9.out
            refine HQ1.out _ _ _ p1 ?_
            exact ⟨_, results_aggr2 (t := 2) (g := w.heap.size) rfl rfl Tryz.isAgg26 Tryz.sizeOf26 rfl p2, SysPost.none_ HN.out p3⟩
      case stop =>
        intro pre W hS hX
        exact hX.elim
end
end Go.Proofs.YtibndaianhlcaaaGreatDoor
