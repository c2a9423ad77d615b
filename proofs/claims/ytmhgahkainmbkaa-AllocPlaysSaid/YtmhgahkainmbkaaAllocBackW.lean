/- The walk of the law AllocBack. -/
import Derived.Test.YtmhgahkainmbkaaAllocAct
namespace Go.Proofs.Ytmhgahkainmbkaa
open Go.RowKit Go.ChangeShapes Go.WideShapes
set_option linter.unusedVariables false
set_option linter.unusedSimpArgs false
structure AOp where
  kind : Int
  i : Int
def aopCells (o : AOp) : List Value := [.int .i64 o.kind, .int .i64 o.i]
theorem aopCells_length (o : AOp) : (aopCells o).length = 2 := rfl
def AOpOk (o : AOp) : Prop := -9223372036854775808 ≤ o.i ∧ o.i ≤ 9223372036854775807
set_option maxRecDepth 100000 in
theorem open_aops {H : Type} {enc : TypeId × Value → H} {W : World} {base : Nat} {v : Value} {d : DataW H} {p : List MemPlace}
    (o : Value.okWide Try.prog W .any base 46 v) (k : DataW.Trod enc Try.prog W 0 (fun _ => true) true 46 v d p) :
    ∃ A n c, ∃ l : List AOp, v = .slice A n c ∧ l.length = n ∧ Slc W W.heap.size 2 A n c (l.flatMap aopCells) ∧ ∀ o ∈ l, AOpOk o := by
  obtain ⟨a0, len0, cap0, rfl⟩ := okWide_slice Try.underlying46 o
  obtain ⟨fuel, hf⟩ := k
  rcases open_slice_fields Try.underlying46 Try.underlying49 (by kernel_rfl) (by kernel_rfl) hf with ⟨hcs, hx⟩ | ⟨x, len, cap, m, D, Pl, hcs, _, hl, hm, hmm, hx, hel⟩
  · simp [Value.cells] at hcs
    obtain ⟨rfl, rfl, rfl⟩ := hcs
    exact ⟨none, 0, 0, [], rfl, rfl, ⟨rfl, Nat.le_refl _, Nat.zero_le _, fun h => absurd h (by decide)⟩, fun _ h => by cases h⟩
  · simp [Value.cells] at hcs
    obtain ⟨rfl, rfl, rfl⟩ := hcs
    simp only [if_true] at hmm
    subst hmm
    simp only [List.size_toArray, List.length_cons, List.length_nil] at hel
    have key : ∀ i, ∃ o : AOp, i < len0 → AOpOk o ∧ ∀ j u, (aopCells o)[j]? = some u → W.cell? (x.add (i * 2 + j)) = some u := by
      intro i
      by_cases hi : i < len0
      · obtain ⟨ys, n, hD, _, hyl, hfs⟩ := hel i (by omega)
        obtain ⟨v0, y0, c0, e0, t0⟩ := hfs 0 _ rfl
        obtain ⟨v1, y1, c1, e1, t1⟩ := hfs 1 _ rfl
        obtain ⟨x0, h0, _, w0⟩ := DataW.trod_int Try.underlying3 t0
        obtain ⟨x1, h1, _, w1⟩ := DataW.trod_int Try.underlying3 t1
        simp only [List.cons.injEq, and_true] at h0 h1
        subst h0 h1
        refine ⟨⟨x0, x1⟩, fun _ => ⟨int_wf w1, fun j u hu => ?_⟩⟩
        have hj : j < 2 := by
          rcases Nat.lt_or_ge j 2 with h | h
          · exact h
          · rw [List.getElem?_eq_none (by rw [aopCells_length]; exact h)] at hu; cases hu
        have : j = 0 ∨ j = 1 := by omega
        rcases this with rfl | rfl <;> (injection hu with hu; subst hu; assumption)
      · exact ⟨⟨0, 0⟩, fun h => absurd h hi⟩
    obtain ⟨f, hf⟩ := Classical.axiomOfChoice key
    refine ⟨some x, len0, _, (List.range len0).map f, rfl, by simp, ?_, ?_⟩
    · rcases Nat.eq_zero_or_pos len0 with h0 | h0
      · subst h0
        exact ⟨by simp, hl, hm, fun h => absurd h (by decide)⟩
      · have h1 := (hf 0 h0).2 0 _ rfl
        have hs : x.spot = none := by simpa [Addr.add] using World.cell?_spot h1
        have hblk : x.block < W.heap.size := by have := World.block_lt_of_cell? _ _ h1; simpa [block_add] using this
        obtain ⟨b, off, sp⟩ := x
        simp only at hs hblk
        subst hs
        refine slc_of_elems aopCells _ (fun o _ => aopCells_length o) (by simp) hl hm hblk (fun i hi j u hu => ?_)
        have hi' : i < len0 := by simpa using hi
        have := (hf i hi').2 j u (by simpa using hu)
        rwa [addr_of_add] at this
    · intro o ho
      obtain ⟨i, hi, rfl⟩ := List.mem_map.1 ho
      exact (hf i (List.mem_range.1 hi)).1
/-- An op's cells, for a walk. -/
theorem aop_cells {w : World} {B : Nat} {A : Option Addr} {n c : Nat} {l : List AOp} (h : Slc w B 2 A n c (l.flatMap aopCells)) (hl : l.length = n) {k : Nat} (hk : k < n) :
    ∃ b off, A = some ⟨b, off, none⟩ ∧ b < B ∧ ∃ hkl : k < l.length, w.cell? ⟨b, off + k * 2, none⟩ = some (.int .i64 l[k].kind) ∧ w.cell? ⟨b, off + k * 2 + 1, none⟩ = some (.int .i64 l[k].i) := by
  obtain ⟨b, off, e, hb, hc⟩ := h.at_ (by omega)
  have hkl : k < l.length := by omega
  have g : ∀ j u, j < 2 → (aopCells l[k])[j]? = some u → w.cell? ⟨b, off + k * 2 + j, none⟩ = some u := fun j u hj hu => by
    have := hc (k * 2 + j) u (by rw [flatMap_get aopCells 2 l (fun o _ => aopCells_length o) k j hkl hj]; exact hu)
    rwa [← Nat.add_assoc] at this
  exact ⟨b, off, e, hb, hkl, g 0 _ (by decide) rfl, g 1 _ (by decide) rfl⟩
variable {w wi wj : World} {p go gs pd ps n : Nat} {L L' : LogM} {F Fj : Nat → Prop} {D : DiskM}
set_option maxRecDepth 100000 in
set_option maxHeartbeats 4000000 in
theorem back_law (w : World) (n : Int) (hn : -9223372036854775808 ≤ n ∧ n ≤ 9223372036854775807) {A : Option Addr} {m c : Nat} {l : List AOp} (hl : l.length = m) (hS : Slc w w.heap.size 2 A m c (l.flatMap aopCells)) (hO : ∀ o ∈ l, AOpOk o)
    {A2 : Option Addr} {m2 c2 : Nat} {l2 : List AOp} (hl2 : l2.length = m2) (hS2 : Slc w w.heap.size 2 A2 m2 c2 (l2.flatMap aopCells)) (hO2 : ∀ o ∈ l2, AOpOk o) :
    Calls Try.prog 5 #[.int .i64 n, .slice A m c, .slice A2 m2 c2] w fun e w' => e = .returned (.bool true) ∧ Below w.heap.size w w' := by
  have hcm : m ≤ 9223372036854775807 := by have h1 := hS.le; have h2 := hS.cmax; simp only [maxLen] at h2; omega
  have hcm2 : m2 ≤ 9223372036854775807 := by have h1 := hS2.le; have h2 := hS2.cmax; simp only [maxLen] at h2; omega
  obtain ⟨hm1, hm2⟩ := sizeN_le n
  have HSZ := Lib.hid (fun W : World => size_any n hn W)
  generalize sizeN n = K at *
  have HL := Lib.hid hl
  have HS := Lib.hid hS
  have HO := Lib.hid hO
  have HL2 := Lib.hid hl2
  have HS2 := Lib.hid hS2
  have HO2 := Lib.hid hO2
  clear hn hl hS hO hl2 hS2 hO2
  go_enter Try.func5, Try.ntmps5
  go_wp2_with fail
  refine (ashown_any w).mono ?_
  rintro e w1 ⟨rfl, hb1⟩
  have HB1 := Lib.hid hb1
  clear hb1
  go_wp2_with fail
  refine (HSZ.out _).mono ?_
  rintro e w2 ⟨rfl, rfl⟩
  go_wp2_with fail
  refine (amade_any hm1 (by omega) HB1.out).mono ?_
  rintro e w3 ⟨p, go, gs, pd, ps, F, rfl, hA⟩
  have HST := Lib.hid (made_all hm1 (by omega : K ≤ 1024)).2.2.2.2.2.1
  have HA := Lib.hid hA
  clear hA
  go_wp2_with fail
  go_loopw [11] (fun i wr => ∃ (k : Nat) (F' : Nat → Prop) (L' : LogM) (D' : DiskM), k ≤ m ∧ k ≤ 60 ∧ i = .int .i64 (k : Int) ∧ ARun w wr F' p go gs pd ps K L' D' ∧ L'.staged = []) (fun i _ => m - (intOf i).toNat)
  case atStart => exact ⟨0, F, _, _, by omega, by omega, rfl, HA.out, HST.out⟩
  case round =>
    obtain ⟨k, F', L', D', hk, hk60, rfl, hP, hst⟩ := hrel
    have HP := Lib.hid hP
    have HPS := Lib.hid hst
    clear hst
    by_cases hlt : k < m ∧ k < 60
    · obtain ⟨hlt, hlt60⟩ := hlt
      obtain ⟨b, off, rfl, hbw, hkl, x0, x1⟩ := aop_cells (HS.out.below hP.log.run.below) HL.out hlt
      have hok := HO.out l[k] (List.getElem_mem hkl)
      generalize l[k] = o at *
      have hac := act_any HP.out o.kind o.i hok
      have HAC := Lib.hid hac
      clear hP hok hac
      go_wp2_with fail
      refine HAC.out.mono ?_
      rintro e w4 ⟨rfl, L4, hA4, _⟩
      have HA4 := Lib.hid hA4
      clear hA4
      go_wp2_with fail
      refine HA4.out.commitA.mono ?_
      rintro e w5 ⟨rfl, F5, hA5⟩
      have hs5 := (HA4.out.log.inv.commitI HA4.out.log.armed).2.2.2.2.1
      have HA5 := Lib.hid (And.intro hA5 hs5)
      clear hA5 hs5
      go_wp2_with fail
      exact ⟨⟨k + 1, F5, _, _, by omega, by omega, by go_num, HA5.out.1, HA5.out.2⟩, by simp [intOf]; omega⟩
    · have hk2 : m ≤ k ∨ (k < m ∧ k = 60) := by omega
      clear hlt hP
      rcases hk2 with hk2 | ⟨hk2, rfl⟩
      all_goals
        go_wp2_with fail
        refine (picture_any HP.out).mono ?_
        rintro e w6 ⟨rfl, hb6⟩
        obtain ⟨was, hwas⟩ : ∃ was, was = picTo (hasBlock K L' D') (hasInode K L' D') K := ⟨_, rfl⟩
        rw [← hwas]
        have HWAS := Lib.hid hwas
        have HP6 := Lib.hid (HP.out.free hb6)
        clear hwas hb6
        go_wp2_with fail
        go_loopw [13] (fun i wr => ∃ (t : Nat) (L6 : LogM), t ≤ m2 ∧ t ≤ 60 ∧ i = .int .i64 (t : Int) ∧ ARun w wr F' p go gs pd ps K L6 D' ∧ L6.over = L'.over) (fun i _ => m2 - (intOf i).toNat)
        case atStart => exact ⟨0, L', by omega, by omega, rfl, HP6.out, rfl⟩
        case round =>
          obtain ⟨t, L6, ht, ht60, rfl, hQ, hov⟩ := hrel
          have HQ := Lib.hid hQ
          have HOV := Lib.hid hov
          clear hov
          by_cases hlt : t < m2 ∧ t < 60
          · obtain ⟨hlt, hlt60⟩ := hlt
            obtain ⟨b, off, rfl, hbw, hkl, x0, x1⟩ := aop_cells (HS2.out.below hQ.log.run.below) HL2.out hlt
            have hok := HO2.out l2[t] (List.getElem_mem hkl)
            generalize l2[t] = o at *
            have hac := act_any HQ.out o.kind o.i hok
            have HAC := Lib.hid hac
            clear hQ hok hac
            go_wp2_with fail
            refine HAC.out.mono ?_
            rintro e w7 ⟨rfl, L7, hA7, ho7⟩
            have HA7 := Lib.hid (And.intro hA7 (ho7.trans HOV.out))
            clear hA7 ho7
            go_wp2_with fail
            exact ⟨⟨t + 1, L7, by omega, by omega, by go_num, HA7.out.1, HA7.out.2⟩, by simp [intOf]; omega⟩
          · have ht2 : m2 ≤ t ∨ (t < m2 ∧ t = 60) := by omega
            have hval : ∀ a, ({ L6 with staged := [] } : LogM).val D' a = L'.val D' a := fun a => by
              rw [val_told, val_told, HPS.out]
              show told { L6 with staged := [] } D'.now a = told L' D'.now a
              unfold told
              rw [show ({ L6 with staged := [] } : LogM).over = L'.over from HOV.out]
            have hpic : picTo (hasBlock K { L6 with staged := [] } D') (hasInode K { L6 with staged := [] } D') K = was := by
              rw [HWAS.out]
              congr 1
              · funext i; unfold hasBlock; rw [hval]
              · funext i; unfold hasInode; rw [hval]
            have HPIC := Lib.hid hpic
            clear hlt hQ hval hpic
            rcases ht2 with ht2 | ⟨ht2, rfl⟩
            all_goals
              go_wp2_with fail
              refine HQ.out.dropA.mono ?_
              rintro e w7 ⟨rfl, hA7⟩
              have HA7 := Lib.hid hA7
              clear hA7
              go_wp2_with fail
              refine (picture_any HA7.out).mono ?_
              rintro e w8 ⟨rfl, hb8⟩
              rw [HPIC.out]
              have HB8 := Lib.hid (HA7.out.log.run.below.trans (hb8.mono HA7.out.log.run.below.size))
              clear hb8
              go_wp2_with fail
              go_ret
              exact ⟨rfl, HB8.out⟩
set_option maxRecDepth 100000 in
theorem AllocBack_walk {H : Type} {enc : TypeId × Value → H} (W : World) (base : Nat) (v0 v1 v2 : Value) (d0 d1 d2 : DataW H) (p0 p1 p2 : List MemPlace)
    (o0 : Value.okWide Try.prog W .any base 3 v0) (o1 : Value.okWide Try.prog W .any base 46 v1) (o2 : Value.okWide Try.prog W .any base 46 v2)
    (k0 : DataW.Trod enc Try.prog W 0 (fun _ => true) true 3 v0 d0 p0) (k1 : DataW.Trod enc Try.prog W 0 (fun _ => true) true 46 v1 d1 p1) (k2 : DataW.Trod enc Try.prog W 0 (fun _ => true) true 46 v2 d2 p2)
    (hsz : (DataW.weightsEach Try.prog [3, 46, 46] [d0, d1, d2]).all (· ≤ reachBytes) = true) :
    Calls Try.prog 5 #[v0, v1, v2] W fun e w' => e = .returned (.bool true) ∧ Below W.heap.size W w' := by
  obtain ⟨A1, n1, c1, l1, rfl, hl1, hS1, hO1⟩ := open_aops o1 k1
  obtain ⟨A2, n2, c2, l2, rfl, hl2, hS2, hO2⟩ := open_aops o2 k2
  obtain ⟨x, rfl, rfl, rfl, wx⟩ := open_int Try.underlying3 o0 k0
  exact back_law W x (int_wf wx) hl1 hS1 hO1 hl2 hS2 hO2
end Go.Proofs.Ytmhgahkainmbkaa
