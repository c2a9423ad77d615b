/- The walk of the reference's Add (layer 22). -/
import Derived.Test.YtdhlklidenfbeaaDoorMenuC
import Derived.Test.YtdhlklidenfbeaaDoorBootA
namespace Go.Proofs.YtdhlklidenfbeaaDoor
open Go.RowKit
set_option linter.unusedVariables false
set_option linter.unusedSimpArgs false

theorem got_own {w w' : World} {m m' : Menu} {A : Option Addr} {n c : Nat} (h : MenuGot w w' m (menuV m' A n c)) : w'.ownsRow w.heap.size 69 2 (.slice A n c) n (m.gens.flatMap genCells) := by
  obtain ⟨A', n', c', e, ho, _⟩ := h
  unfold menuV at e
  simp only [Value.agg.injEq, Array.mk.injEq, List.cons.injEq, Value.slice.injEq, and_true] at e
  obtain ⟨_, _, _, _, rfl, rfl, rfl⟩ := e
  exact ho
theorem size_setRow (w : World) (g : Nat) (cs : Array Value) : (w.setRow g cs).heap.size = w.heap.size := by simp [World.setRow]
theorem radd_tail {w6 : World} {M R base n : Nat} {k6 : Nat} {A6 : Option Addr} {m : Menu} {p : Txt} {x : Int} {cs : Array Value} (hM6 : Blk w6 M 63 cs) (hR6 : Blk w6 R 63 #[.int .i64 0, .int .i64 0, .int .i64 0, .int .i64 0, .slice none 0 0]) (hM : (Value.slice A6 n k6).ownBlock ≠ some M) (hR : (Value.slice A6 n k6).ownBlock ≠ some R) (hMR : M ≠ R)
    (ho6 : w6.ownsRow base 69 2 (.slice A6 n k6) n (m.gens.flatMap genCells)) (hn : n ≤ 1000000000) (hbase : base ≤ w6.heap.size) :
    ∃ A8 k8 w8, (Builtin.append_ #[61, 61] 61 #[.slice A6 n k6, .slice (some ⟨w6.heap.size, 0, none⟩) 1 1]).run Tryd.prog
        (w6.alloc (.cells #[.int .i64 x, .string ⟨p.toArray⟩] 69)) = .ok (.slice A8 (n + 1) k8) w8 ∧
      w8.ownsRow base 69 2 (.slice A8 (n + 1) k8) (n + 1) ((m.gens ++ [(⟨x, p⟩ : Gen)]).flatMap genCells) ∧
      (Value.slice A8 (n + 1) k8).ownBlock ≠ some M ∧ (Value.slice A8 (n + 1) k8).ownBlock ≠ some R ∧
      (∀ a, Below base a w6 → Below base a w8) ∧ Blk w8 M 63 cs ∧ Blk w8 R 63 #[.int .i64 0, .int .i64 0, .int .i64 0, .int .i64 0, .slice none 0 0] := by
  have hk : GensAt (w6.alloc (.cells #[.int .i64 x, .string ⟨p.toArray⟩] 69)) (w6.heap.size + 1) (some ⟨w6.heap.size, 0, none⟩) 1 1 [⟨x, p⟩] :=
    ⟨slc_new w6 69 (0, 0) #[.int .i64 x, .string ⟨p.toArray⟩] (sz := 2) (n := 1) (c := 1) rfl (Nat.le_refl _) (by decide), rfl⟩
  obtain ⟨A8, k8, w8, h1, h2, h3, h4⟩ := append_gens (w6.alloc (.cells #[.int .i64 x, .string ⟨p.toArray⟩] 69)) base _ n m.gens (ho6.alloc _) hk (by omega) (by simp; omega)
  have hML := hM6.lt
  have hRL := hR6.lt
  refine ⟨A8, k8, w8, h1, h2, ?_, ?_, fun a hb => (hb.alloc hbase _).grown h3 (by simp; omega) (fun q hq => (ho6.lt q hq).1), (hM6.alloc _).grown h3 (fun e => hM e.symm), (hR6.alloc _).grown h3 (fun e => hR e.symm)⟩
  · rcases h4 with h4 | h4
    · rw [h4]; exact hM
    · rw [h4]; simp; omega
  · rcases h4 with h4 | h4
    · rw [h4]; exact hR
    · rw [h4]; simp; omega

section
attribute [local go_sem ↓] load_menu_mark store_menu_mark
set_option maxRecDepth 100000 in
set_option maxHeartbeats 1000000 in
theorem refAdd_any {w : World} {B : Nat} {A : Option Addr} {n c : Nat} {m : Menu} (h : GensAt w B A n c m.gens) (hB : B ≤ w.heap.size) (hpl : ∀ g ∈ m.gens, g.path.length ≤ 1000000000) (hn : n ≤ 1000000000) (p : Txt) (hp : p.length ≤ 1000000000) :
    Calls Tryd.prog 32 #[menuV m A n c, .string ⟨p.toArray⟩] w fun e w' => ∃ v, e = .returned (.tuple #[v, .int .i64 (addN m p), .int .i64 (addM m p).err]) ∧ MenuGot w w' (addM m p).menu v := by
  obtain ⟨W2, hW2⟩ : ∃ W2, W2 = (w.alloc (.cells #[.int .i64 m.last, .int .i64 m.def_, .int .i64 m.next, .int .i64 m.trial, .slice A n c] 63)).alloc (.cells #[.int .i64 0, .int .i64 0, .int .i64 0, .int .i64 0, .slice none 0 0] 63) := ⟨_, rfl⟩
  obtain ⟨hb2, hz2, hM2, hR2⟩ := pre2 m A n c w W2 hW2
  have hr := refRight_any (h.below (hb2.mono hB)) (Nat.le_trans hB hb2.size) hpl
  have HST := Lib.hid (fun w3 : World => isPath_any p w3 (by unfold maxLen; omega))
  have HWI := Lib.hid (fun (w3 : World) (hb : Below w.heap.size w w3) (a b d t : Int) => with_any (h.below (hb.mono hB)) (Nat.le_trans hB hb.size) hn a b d t)
  have hl2 := MenuBlk.load hM2
  have H := Lib.hid (And.intro hb2 (And.intro hz2 (And.intro hM2 hR2)))
  have hlen := h.len
  have e0 : menuV m A n c = .agg #[.int .i64 m.last, .int .i64 m.def_, .int .i64 m.next, .int .i64 m.trial, .slice A n c] := rfl
  clear hb2 hz2 hM2 hR2 h
  rw [hW2] at hr hl2
  have bad : ∀ (er : Int), addM m p = refuse er → (menuB m = false ∧ er = 66 ∨ menuB m = true ∧ pathB p = false ∧ er = 65 ∨ menuB m = true ∧ pathB p = true ∧ (16 ≤ n ∨ n < 16 ∧ 999999 ≤ m.last) ∧ er = 69) →
      Calls Tryd.prog 32 #[menuV m A n c, .string ⟨p.toArray⟩] w fun e w' => ∃ v, e = .returned (.tuple #[v, .int .i64 (addN m p), .int .i64 (addM m p).err]) ∧ MenuGot w w' (addM m p).menu v := by
    intro er he hc
    have H1 := Lib.hid he
    have hne : er ≠ 0 := by omega
    have H2 := Lib.hid (show addN m p = 0 by unfold addN; rw [he]; show (if er = 0 then _ else _) = _; rw [if_neg hne])
    clear he hne
    rw [H1.out, H2.out]
    show Calls _ _ _ _ fun e w' => ∃ v, e = .returned (.tuple #[v, .int .i64 0, .int .i64 er]) ∧ MenuGot w w' zeroM v
    rw [e0]
    rcases hc with ⟨c1, rfl⟩ | ⟨c1, c2, rfl⟩ | ⟨c1, c2, c3 | ⟨c3, c4⟩, rfl⟩
    all_goals
      rw [c1] at hr
      have HST := Lib.hid (fun w3 => (HST.out w3))
      first | rw [c2] at HST | skip
      clear c1 hlen H1 H2
      first | clear c2 | skip
      go_enter Tryd.func32, Tryd.ntmps32
      go_wp2_with (first
        | (go_at_call 76; refine hr.mono ?_; clear hr; rintro e2 w3 ⟨rfl, hb3⟩; rw [← hW2] at hb3; have hR3 := H.out.2.2.2.below hb3 H.out.2.2.2.lt; have hM3 : MenuBlk w3 w.heap.size m A n c := H.out.2.2.1.below hb3 H.out.2.2.1.lt)
        | (go_at_call 44; refine (HST.out _).mono ?_; rintro e3 w4 ⟨rfl, hb4⟩; have hR4 := hR3.below hb4 hR3.lt; obtain ⟨m0, m1, m2, m3, m4, mf⟩ := (hM3.below hb4 hM3.lt).facts; have hst4 := store_menu hR4 rfl 0 0 0 0 none 0 0))
      refine bodyPost_ret (res_menu3 (t := 4) (u := 5) (v := 6) (g := w.heap.size + 1) rfl rfl (hR4.row _) rfl) rfl ⟨menuV zeroM none 0 0, rfl, ?_⟩
      have hb5 := H.out.1.trans (hb3.mono H.out.1.size)
      exact refused_any (hb5.trans (hb4.mono hb5.size)) hR4
  by_cases q1 : menuB m = false
  · exact bad 66 (by unfold addM; rw [if_pos q1]) (.inl ⟨q1, rfl⟩)
  have q1' : menuB m = true := by simpa using q1
  by_cases q2 : pathB p = false
  · exact bad 65 (by unfold addM; rw [if_neg q1, if_pos q2]) (.inr (.inl ⟨q1', q2, rfl⟩))
  have q2' : pathB p = true := by simpa using q2
  have hMO := ((menuB_iff m).1 q1').head
  by_cases q3 : m.gens.length = 16 ∨ m.last = 999999
  · exact bad 69 (by unfold addM; rw [if_neg q1, if_neg q2, if_pos q3]) (.inr (.inr ⟨q1', q2', by omega, rfl⟩))
  have H1 := Lib.hid (show addM m p = ⟨0, { m with last := m.last + 1, gens := m.gens ++ [⟨m.last + 1, p⟩] }⟩ by unfold addM; rw [if_neg q1, if_neg q2, if_neg q3])
  have H2 := Lib.hid (show addN m p = m.last + 1 by unfold addN; rw [H1.out]; rfl)
  have hn16 : n < 16 := by omega
  have hl0 : 0 ≤ m.last := hMO.1
  have hl9 : m.last < 999999 := by omega
  have hw1 : IntKind.i64.wrap (m.last + 1) = m.last + 1 := by rw [IntKind.wrap_i64]; omega
  rw [q1'] at hr
  have HST := Lib.hid (fun w3 => (HST.out w3))
  rw [q2'] at HST
  have HLEN := Lib.hid hlen
  clear bad q1 q1' q2 q2' q3 hMO hlen
  rw [e0]
  go_enter Tryd.func32, Tryd.ntmps32
  go_wp2_with (first
    | (go_at_call 76; refine hr.mono ?_; clear hr; rintro e2 w3 ⟨rfl, hb3⟩; rw [← hW2] at hb3; have HW3 := H.out.1.trans (hb3.mono H.out.1.size); have hR3 := H.out.2.2.2.below hb3 H.out.2.2.2.lt; have hM3 : MenuBlk w3 w.heap.size m A n c := H.out.2.2.1.below hb3 H.out.2.2.1.lt)
    | (go_at_call 44; refine (HST.out _).mono ?_; rintro e3 w4 ⟨rfl, hb4⟩; have HW4 := HW3.trans (hb4.mono HW3.size); have hR4 := hR3.below hb4 hR3.lt; obtain ⟨m0, m1, m2, m3, m4, mf⟩ := (hM3.below hb4 hM3.lt).facts; have hwt := HWI.out w4 HW4 (m.last + 1) m.def_ m.next m.trial)
    | (go_at_call 77; refine hwt.mono ?_; clear hwt m0 m1 m2 m3 m4 mf; rintro e5 w5 ⟨v5, rfl, hg5⟩; have hb5 := hg5.choose_spec.choose_spec.choose_spec.2.2; obtain ⟨A6, n6, c6, rfl, hs6, hl6, hB6, ho6, hbW6, hR6⟩ := got_new4 hg5 (hR4.below hb5 hR4.lt);  have hR4lt := hR4.lt; have hne1 : (Value.slice A6 n6 c6).ownBlock ≠ some w5.heap.size := fun e => absurd ((got_own hg5).lt _ e).2 (Nat.lt_irrefl _); have hn6 : n6 ≤ 1000000000 := (by have h1 : m.gens.length = n6 := (own_gens (got_own hg5)).len; have h2 := HLEN.out; omega); obtain ⟨A8, k8, w8, hrun, ho8, hnM, hnR, hbl8, hM8, hR8⟩ := radd_tail (p := p) (x := m.last + 1) hB6 hR6 hne1 (own_ne ho6 hR4.lt) (by have := hb5.size; omega) ho6 hn6 hbW6.size; rw [size_setRow, World.size_alloc] at hrun; obtain ⟨x0, x1, x2, x3, x4, xf⟩ := hB6.facts; obtain ⟨q0, q1, q2, q3, q4, qf⟩ := menu_facts hM8; have hM9 := hM8.set_ 4 (.slice A8 (n6 + 1) k8); simp only [mnCells, List.setIfInBounds_toArray, List.set_cons_zero, List.set_cons_succ] at hM9; have hl9 := load_menu hM9; have hR9 := hR8.far (p := ⟨w5.heap.size, 4, none⟩) (by have := hb5.size; simp; omega) (.slice A8 (n6 + 1) k8); have hst9 := store_menu hR9 rfl (m.last + 1) m.def_ m.next m.trial A8 (n6 + 1) k8)
    | (at_builtin; refine wpList_append_run rfl _ _ _ rfl rfl rfl hrun ?_; clear hrun))
  refine bodyPost_ret (res_menu3 (t := 4) (u := 5) (v := 6) (g := w.heap.size + 1) rfl rfl (hR9.row _) rfl) rfl ⟨menuV { m with last := m.last + 1, gens := m.gens ++ [⟨m.last + 1, p⟩] } A8 (n6 + 1) k8, by rw [H1.out, H2.out]; rfl, ?_⟩
  rw [H1.out]
  refine ⟨A8, n6 + 1, k8, rfl, ?_, ?_⟩
  · exact own_row (own_set (own_mono ho8 HW4.size) hnM _) hnR _
  · exact below_row (((HW4.trans ((hbl8 w4 hbW6).mono HW4.size))).setCell (by have := HW4.size; have := hb5.size; simp; omega) _) (by omega) _
end
end Go.Proofs.YtdhlklidenfbeaaDoor
