/- law20: wreck. MachinePlays: the machine and the reference's machine, side by side. -/
import Derived.Test.YtibndaianhlcaaaDoorPart23
namespace Go.Proofs.YtibndaianhlcaaaDoor
open Go.RowKit Go.Sort Go.Shelf
set_option linter.unusedVariables false
set_option linter.unusedSimpArgs false

/-- The rest of a row, from its k-th element on, as it was. -/
def RemB (w : World) (G : Nat → Prop) (t : TypeId) (sz : Nat) (A : Option Addr) (n : Nat) (xs : List Value) (k : Nat) : Prop := n = 0 ∨ ∃ g cur, A = some ⟨g, 0, none⟩ ∧ Blk w g t cur ∧ n * sz ≤ cur.size ∧ G g ∧ ∀ j v, k * sz ≤ j → xs[j]? = some v → cur[j]? = some v
theorem RemB.of_row {w : World} {F G : Nat → Prop} {t : TypeId} {sz : Nat} {A : Option Addr} {n m c : Nat} {xs : List Value} (h : Row w F t sz (.slice A m c) n xs) (hG : ∀ k, F k → G k) : RemB w G t sz A n xs 0 := by
  rcases h.own.2 with ⟨_, h0⟩ | ⟨g, cap, cur, e, _, h2, h3, h4, h5, h6⟩
  · exact .inl h0
  · injection e with e
    refine .inr ⟨g, cur, e, h2, by rw [h5]; exact Nat.mul_le_mul_right _ h3, hG _ (h.foot g (by rw [e]; rfl)), fun j v _ hj => ?_⟩
    rw [← h6, List.getElem?_take] at hj
    split at hj
    · rwa [Array.getElem?_toList] at hj
    · cases hj
theorem RemB.sp {a b : World} {G : Nat → Prop} {T : TypeId → Prop} {t : TypeId} {sz : Nat} {A : Option Addr} {n : Nat} {xs : List Value} {k : Nat} (h : RemB a G t sz A n xs k) (s : Sp a b G T) (hT : ¬ T t) : RemB b G t sz A n xs k := by
  rcases h with h | ⟨g, cur, h1, h2, h3, h4, h5⟩
  · exact .inl h
  · exact .inr ⟨g, cur, h1, s.blk h2 hT, h3, h4, h5⟩
theorem RemB.other {a : World} {G : Nat → Prop} {t u : TypeId} {sz : Nat} {A : Option Addr} {n : Nat} {xs : List Value} {k : Nat} (h : RemB a G t sz A n xs k) {q : Nat} {cs : Array Value} (hq : Blk a q u cs) (hne : t ≠ u) (i : Nat) (v : Value) : RemB (a.setCell ⟨q, i, none⟩ v) G t sz A n xs k := by
  rcases h with h | ⟨g, cur, h1, h2, h3, h4, h5⟩
  · exact .inl h
  · exact .inr ⟨g, cur, h1, h2.far (by have := h2.ne_ hq hne; simpa using this) v, h3, h4, h5⟩
theorem RemB.next {a : World} {G : Nat → Prop} {t : TypeId} {sz : Nat} {A : Option Addr} {n : Nat} {xs : List Value} {k : Nat} (h : RemB a G t sz A n xs k) {g : Nat} (hA : A = some ⟨g, 0, none⟩) {vs : List Value} (hv : vs.length = sz) : RemB (a.setCells g (k * sz) vs) G t sz A n xs (k + 1) := by
  rcases h with h | ⟨g', cur, h1, h2, h3, h4, h5⟩
  · exact .inl h
  · rw [hA] at h1
    injection h1 with h1
    injection h1 with h1
    subst h1
    refine .inr ⟨g, _, hA, Blk.setCells vs (k * sz) h2, by rw [sets_size]; exact h3, h4, fun j v hj hx => ?_⟩
    rw [Nat.succ_mul] at hj
    have h6 := h5 j v (by omega) hx
    rw [← Array.getElem?_toList] at h6 ⊢
    have hjs : j < cur.size := by have := (List.getElem?_eq_some_iff.1 h6).1; rwa [Array.length_toList] at this
    rw [sets_get (by rw [hv]; omega), if_neg (by omega), if_neg (by rw [hv]; omega)]
    exact h6
theorem RemB.cell {a : World} {G : Nat → Prop} {t : TypeId} {sz : Nat} {A : Option Addr} {n : Nat} {xs : List Value} {k : Nat} (h : RemB a G t sz A n xs k) (hk : k < n) (hl : xs.length = n * sz) : ∃ g cur, A = some ⟨g, 0, none⟩ ∧ Blk a g t cur ∧ G g ∧ (∀ i v, i < sz → xs[k * sz + i]? = some v → a.cell? ⟨g, k * sz + i, none⟩ = some v) ∧ ∀ i, a.frozen? ⟨g, i, none⟩ = false := by
  rcases h with h | ⟨g, cur, h1, h2, h3, h4, h5⟩
  · omega
  · exact ⟨g, cur, h1, h2, h4, fun i v hi hv => by rw [h2.cell]; exact h5 _ v (by omega) hv, h2.frozen⟩
theorem Sp.sets {a : World} {G : Nat → Prop} {T : TypeId → Prop} {g : Nat} {t : TypeId} (hG : G g) (hT : T t) : ∀ (vs : List Value) (i : Nat) {b : World} {cur : Array Value}, Sp a b G T → Blk b g t cur → Sp a (b.setCells g i vs) G T
  | [], _, _, _, h, _ => h
  | v :: r, i, b, cur, h, hB => Sp.sets hG hT r (i + 1) (h.set hB hG hT i v) (hB.set_ i v)
def TE (t : TypeId) : Prop := t = 5 ∨ t = 44
def TES (t : TypeId) : Prop := TE t ∨ t = 9
def TAll (t : TypeId) : Prop := TES t ∨ t = 46
theorem not_te {t : TypeId} (h1 : t ≠ 5) (h2 : t ≠ 44) : ¬ TE t := fun h => by rcases h with h | h; exact h1 h; exact h2 h
theorem not_tes {t : TypeId} (h1 : t ≠ 5) (h2 : t ≠ 44) (h3 : t ≠ 9) : ¬ TES t := fun h => by rcases h with h | h; exact not_te h1 h2 h; exact h3 h
theorem not_tall {t : TypeId} (h1 : t ≠ 5) (h2 : t ≠ 44) (h3 : t ≠ 9) (h4 : t ≠ 46) : ¬ TAll t := fun h => by rcases h with h | h; exact not_tes h1 h2 h3 h; exact h4 h
structure WreckOk (w : World) (G : Nat → Prop) (o : OV) : Prop where
  files : RemB w G 44 3 o.A o.n (o.es.flatMap evCells) 0
  fl : o.es.length = o.n
  data : ∀ e ∈ o.es, WrB w G 5 1 e.A e.n ∧ e.n ≤ 1000000000
  users : WrB w G 9 1 o.A2 o.n2
  units : RemB w G 46 4 o.A3 o.n3 (o.us.flatMap svCells) 0
  ul : o.us.length = o.n3
  lists : ∀ u ∈ o.us, (WrB w G 9 1 u.A u.n ∧ u.n ≤ 1000000000 ∧ u.c ≤ maxLen) ∧ WrB w G 9 1 u.A2 u.n2 ∧ u.n2 ≤ 1000000000 ∧ u.c2 ≤ maxLen
  small : o.n ≤ 1000000 ∧ o.n2 ≤ 1000000 ∧ o.n3 ≤ 1000000
theorem ent_at {es : List EV} {k : Nat} (hk : k < es.length) (i : Nat) (hi : i < 3) : (es.flatMap evCells)[k * 3 + i]? = (evCells es[k])[i]? := flatMap_get evCells 3 es (fun o _ => evCells_length o) k i hk hi
theorem unit_at {us : List SV} {k : Nat} (hk : k < us.length) (i : Nat) (hi : i < 4) : (us.flatMap svCells)[k * 4 + i]? = (svCells us[k])[i]? := flatMap_get svCells 4 us (fun o _ => svCells_length o) k i hk hi
set_option maxRecDepth 100000 in
set_option maxHeartbeats 8000000 in
theorem wreck20_any {w : World} {G : Nat → Prop} {o : OV} (h : WreckOk w G o) : Calls Tryd.prog 17 #[.agg (ovArr o)] w fun e w' => e = .returned (.tuple #[]) ∧ Sp w w' G TAll := by
  obtain ⟨W1, hW1⟩ : ∃ W1, W1 = w.alloc (.cells (ovArr o) 38) := ⟨_, rfl⟩
  have hb1 : Below w.heap.size w W1 := by rw [hW1]; exact bel_new _ _
  have hG1 : Blk W1 w.heap.size 38 (ovArr o) := by rw [hW1]; exact Blk.new _ _ _
  have hS1 : Sp w W1 G TE := Sp.of_below hb1
  have hne : ∀ {T : TypeId → Prop} {wr : World}, Sp W1 wr G T → ¬ T 38 → wr.cell? ⟨w.heap.size, 0, none⟩ = some (.slice o.A o.n o.c) ∧ wr.cell? ⟨w.heap.size, 1, none⟩ = some (.slice o.A2 o.n2 o.c2) ∧ wr.cell? ⟨w.heap.size, 2, none⟩ = some (.slice o.A3 o.n3 o.c3) := fun hs hT => ⟨(hs.blk hG1 hT).cell 0, (hs.blk hG1 hT).cell 1, (hs.blk hG1 hT).cell 2⟩
  have HB : Hid (∀ {wr : World}, Sp W1 wr G TAll → wr.cell? ⟨w.heap.size, 0, none⟩ = some (.slice o.A o.n o.c) ∧ wr.cell? ⟨w.heap.size, 1, none⟩ = some (.slice o.A2 o.n2 o.c2) ∧ wr.cell? ⟨w.heap.size, 2, none⟩ = some (.slice o.A3 o.n3 o.c3)) := fun hs => hne hs (not_tall (by decide) (by decide) (by decide) (by decide))
  have HF0 := Lib.hid (h.files.sp (Sp.of_below hb1 : Sp w W1 G (fun _ => False)) (fun x => x))
  have HU0 := Lib.hid (h.units.sp (Sp.of_below hb1 : Sp w W1 G (fun _ => False)) (fun x => x))
  have HD : Hid (∀ e ∈ o.es, WrB W1 G 5 1 e.A e.n ∧ e.n ≤ 1000000000) := fun e he => ⟨(h.data e he).1.below hb1, (h.data e he).2⟩
  have HUS := Lib.hid (h.users.below hb1)
  have HLI : Hid (∀ u ∈ o.us, (WrB W1 G 9 1 u.A u.n ∧ u.n ≤ 1000000000 ∧ u.c ≤ maxLen) ∧ WrB W1 G 9 1 u.A2 u.n2 ∧ u.n2 ≤ 1000000000 ∧ u.c2 ≤ maxLen) := fun u hu => ⟨⟨(h.lists u hu).1.1.below hb1, (h.lists u hu).1.2⟩, (h.lists u hu).2.1.below hb1, (h.lists u hu).2.2⟩
  have HS1 := Lib.hid hS1
  have HFL := Lib.hid h.fl
  have HUL := Lib.hid h.ul
  have hsm := h.small
  obtain ⟨A, n, c, es, A2, n2, c2, users, A3, n3, c3, us⟩ := o
  obtain ⟨s1, s2, s3⟩ := hsm
  have hWW := hW1
  unfold ovArr at hWW ⊢
  simp only at hWW s1 s2 s3 ⊢
  have HWW := Lib.hid hWW
  clear h hb1 hG1 hS1 hW1 hWW hne
  go_enter Tryd.func17, Tryd.ntmps17
  go_wp2_with (fail)
  rw [← HWW.out]
  go_loopw [2] (fun i wr => ∃ k : Nat, k ≤ n ∧ i = .int .i64 (k : Int) ∧ Aside (Sp W1 wr G TE) ∧ Aside (RemB wr G 44 3 A n (es.flatMap evCells) k)) (fun i _ => n - (intOf i).toNat)
  case atStart => exact ⟨0, Nat.zero_le _, rfl, Sp.of_below (Below.refl _ _), HF0.out⟩
  case round =>
    obtain ⟨k, hk, rfl, hs, hrem⟩ := hrel
    obtain ⟨y0, y1, y2⟩ := HB.out (hs.out.more (fun t h => .inl (.inl h)))
    try simp only at y0 y1 y2
    by_cases hlt : k < n
    · have hkl : k < es.length := by have h9 : es.length = n := HFL.out; omega
      obtain ⟨hW, hn9⟩ := HD.out es[k] (List.getElem_mem hkl)
      have HWD := Lib.hid hW
      have HE := Lib.hid (fun i hi => ent_at hkl i hi)
      have HL3 := Lib.hid (show (es.flatMap evCells).length = n * 3 by rw [flatMap_len evCells 3 es (fun o _ => evCells_length o)]; have h9 : es.length = n := HFL.out; rw [h9])
      generalize es[k] = x at *
      clear hW
      go_wp2_with (fail)
      clear y0 y1 y2
      go_loopw [3] (fun i wr => ∃ j : Nat, j ≤ x.n ∧ i = .int .i64 (j : Int) ∧ Aside (Sp W1 wr G TE) ∧ Aside (RemB wr G 44 3 A n (es.flatMap evCells) k)) (fun i _ => x.n - (intOf i).toNat)
      case atStart => exact ⟨0, Nat.zero_le _, rfl, hs.out, hrem.out⟩
      case round =>
        obtain ⟨j, hj, rfl, hs, hrem⟩ := hrel
        obtain ⟨y0, y1, y2⟩ := HB.out (hs.out.more (fun t h => .inl (.inl h)))
        try simp only at y0 y1 y2
        obtain ⟨g, cur, hA, hBk, hGg, hcell, hfz⟩ := hrem.out.cell hlt HL3.out
        have c2' : wr.cell? ⟨g, k * 3 + 2, none⟩ = some (.slice x.A x.n x.c) := hcell 2 _ (by decide) (HE.out 2 (by decide))
        subst hA
        have HRM := Lib.hid hrem.out
        by_cases hjl : j < x.n
        · obtain ⟨g2, cur2, hA2, hBk2, hGg2, ⟨u0, q1⟩, q2⟩ := (hs.out.wr HWD.out).at_ hjl
          rw [hA2] at c2'
          have HN := Lib.hid (hs.out.set hBk2 hGg2 (.inl rfl) j (.int .u8 2))
          have HR2 := Lib.hid (hrem.out.other hBk2 (by decide) j (.int .u8 2))
          clear hBk hGg hBk2 hGg2 hcell hfz
          go_wp2_with (fail)
          exact ⟨⟨j + 1, by omega, by go_num, HN.out, HR2.out⟩, by simp [intOf]; omega⟩
        · obtain rfl : j = x.n := by omega
          have p0 : wr.cell? ⟨g, k * 3, none⟩ = some (.string ⟨x.path.toArray⟩) := hcell 0 _ (by decide) (HE.out 0 (by decide))
          have p1 : wr.cell? ⟨g, k * 3 + 1, none⟩ = some (.int .i64 x.kind) := hcell 1 _ (by decide) (HE.out 1 (by decide))
          have pf0 := hfz (k * 3)
          have pf1 := hfz (k * 3 + 1)
          have pf2 := hfz (k * 3 + 2)
          have HN := Lib.hid (Sp.sets hGg (.inr rfl) [.string ⟨#[]⟩, .int .i64 0, .slice none 0 0] (k * 3) hs.out hBk)
          have HR2 := Lib.hid (hrem.out.next rfl (vs := [.string ⟨#[]⟩, .int .i64 0, .slice none 0 0]) rfl)
          clear hBk hGg hcell hfz
          go_wp2_with (fail)
          exact ⟨⟨k + 1, by omega, by go_num, HN.out, HR2.out⟩, by simp [intOf]; omega⟩
    · obtain rfl : k = n := by omega
      have HS2 := Lib.hid (hs.out.more (U := TES) (fun t h => .inl h))
      go_wp2_with (fail)
      clear y0 y1 y2
      go_loopw [4] (fun i wr => ∃ k : Nat, k ≤ n2 ∧ i = .int .i64 (k : Int) ∧ Aside (Sp W1 wr G TES)) (fun i _ => n2 - (intOf i).toNat)
      case atStart => exact ⟨0, Nat.zero_le _, rfl, HS2.out⟩
      case round =>
        obtain ⟨j, hj, rfl, hs⟩ := hrel
        obtain ⟨y0, y1, y2⟩ := HB.out (hs.out.more (fun t h => .inl h))
        try simp only at y0 y1 y2
        by_cases hjl : j < n2
        · obtain ⟨g2, cur2, hA2, hBk2, hGg2, ⟨u0, q1⟩, q2⟩ := (hs.out.wr HUS.out).at_ hjl
          try simp only at hA2
          rw [hA2] at y1
          have HN := Lib.hid (hs.out.set hBk2 hGg2 (.inr rfl) j (.string ⟨#[33]⟩))
          clear hBk2 hGg2
          go_wp2_with (fail)
          exact ⟨⟨j + 1, by omega, by go_num, HN.out⟩, by simp [intOf]; omega⟩
        · obtain rfl : j = n2 := by omega
          have HS3 := Lib.hid (hs.out.more (U := TAll) (fun t h => .inl h))
          have HR3 := Lib.hid (HU0.out.sp hs.out (not_tes (by decide) (by decide) (by decide)))
          go_wp2_with (fail)
          clear y0 y1 y2
          go_loopw [5] (fun i wr => ∃ k : Nat, k ≤ n3 ∧ i = .int .i64 (k : Int) ∧ Aside (Sp W1 wr G TAll) ∧ Aside (RemB wr G 46 4 A3 n3 (us.flatMap svCells) k)) (fun i _ => n3 - (intOf i).toNat)
          case atStart => exact ⟨0, Nat.zero_le _, rfl, HS3.out, HR3.out⟩
          case round =>
            obtain ⟨q, hq, rfl, hs, hrem⟩ := hrel
            obtain ⟨y0, y1, y2⟩ := HB.out hs.out
            try simp only at y0 y1 y2
            by_cases hql : q < n3
            · have hkl : q < us.length := by have h9 : us.length = n3 := HUL.out; omega
              have hli := HLI.out us[q] (List.getElem_mem hkl)
              have HE := Lib.hid (fun i hi => unit_at hkl i hi)
              have HL4 := Lib.hid (show (us.flatMap svCells).length = n3 * 4 by rw [flatMap_len svCells 4 us (fun o _ => svCells_length o)]; have h9 : us.length = n3 := HUL.out; rw [h9])
              generalize us[q] = x at *
              obtain ⟨g, cur, hA, hBk, hGg, hcell, hfz⟩ := hrem.out.cell hql HL4.out
              subst hA
              have c0 : wr.cell? ⟨g, q * 4, none⟩ = some (.string ⟨x.name.toArray⟩) := hcell 0 _ (by decide) (HE.out 0 (by decide))
              have c1 : wr.cell? ⟨g, q * 4 + 1, none⟩ = some (.string ⟨x.start.toArray⟩) := hcell 1 _ (by decide) (HE.out 1 (by decide))
              have c2' : wr.cell? ⟨g, q * 4 + 2, none⟩ = some (.slice x.A x.n x.c) := hcell 2 _ (by decide) (HE.out 2 (by decide))
              have c3' : wr.cell? ⟨g, q * 4 + 3, none⟩ = some (.slice x.A2 x.n2 x.c2) := hcell 3 _ (by decide) (HE.out 3 (by decide))
              have hsp := spoil20_any (w := wr) (G := G) (a := ⟨0, [], ⟨[], 0, [], none, 0, 0⟩, x⟩) ⟨.inl rfl, hs.out.wr hli.1.1, hs.out.wr hli.2.1, ⟨by show 0 ≤ 1000000000; omega, hli.1.2.1, hli.2.2.1⟩, by show 0 ≤ maxLen; exact Nat.zero_le _, hli.1.2.2, hli.2.2.2⟩
              unfold avArr at hsp
              simp only at hsp
              have HREM := Lib.hid hrem.out
              have HSS := Lib.hid hs.out
              have HNX : Hid (∀ {w9 : World}, Sp wr w9 G TSp → ∃ u0 u1 u2 u3, w9.cell? ⟨g, q * 4, none⟩ = some u0 ∧ w9.cell? ⟨g, q * 4 + 1, none⟩ = some u1 ∧ w9.cell? ⟨g, q * 4 + 2, none⟩ = some u2 ∧ w9.cell? ⟨g, q * 4 + 3, none⟩ = some u3 ∧ (∀ i, w9.frozen? ⟨g, i, none⟩ = false) ∧ Sp W1 (w9.setCells g (q * 4) [.string ⟨#[]⟩, .string ⟨#[]⟩, .slice none 0 0, .slice none 0 0]) G TAll ∧ RemB (w9.setCells g (q * 4) [.string ⟨#[]⟩, .string ⟨#[]⟩, .slice none 0 0, .slice none 0 0]) G 46 4 (some ⟨g, 0, none⟩) n3 (us.flatMap svCells) (q + 1)) := fun {w9} h9 => by
                have hT : ¬ TSp 46 := by intro h; rcases h with h | h <;> exact absurd h (by decide)
                have hB9 := h9.blk hBk hT
                have hr9 := HREM.out.sp h9 hT
                have hs9 := HSS.out.trans (h9.more (U := TAll) (fun t h => by rcases h with h | h; exact .inl (.inl (.inl h)); exact .inl (.inr h))) (fun t h => h)
                exact ⟨_, _, _, _, by rw [hB9.cell, ← hBk.cell]; exact c0, by rw [hB9.cell, ← hBk.cell]; exact c1, by rw [hB9.cell, ← hBk.cell]; exact c2', by rw [hB9.cell, ← hBk.cell]; exact c3', hB9.frozen, Sp.sets hGg (.inr rfl) _ (q * 4) hs9 hB9, hr9.next rfl rfl⟩
              clear hBk hGg hcell hfz hli
              go_wp2_with (go_at_call 15; go_loud (refine hsp.mono ?_; clear hsp; rintro e w9 ⟨rfl, h9⟩; obtain ⟨u0, u1, u2, u3, q0, q1, q2, q3, qf, hN, hR⟩ := HNX.out h9; obtain ⟨t0, t1, t2⟩ := HB.out (HSS.out.trans (h9.more (U := TAll) (fun t h => by rcases h with h | h; exact .inl (.inl (.inl h)); exact .inl (.inr h))) (fun t h => h)); (try simp only at t0 t1 t2); have qf0 := qf (q * 4); have qf1 := qf (q * 4 + 1); have qf2 := qf (q * 4 + 2); have qf3 := qf (q * 4 + 3); have HN := Lib.hid hN; have HR := Lib.hid hR; clear h9 hN hR qf))
              exact ⟨⟨q + 1, by omega, by go_num, HN.out, HR.out⟩, by simp [intOf]; omega⟩
            · obtain rfl : q = n3 := by omega
              go_wp2_with (fail)
              go_end0
              exact ⟨rfl, HS1.out.trans hs.out (fun t h => .inl (.inl h))⟩
end Go.Proofs.YtibndaianhlcaaaDoor
namespace Go.Proofs.YtibndaianhlcaaaDoor
open Go.RowKit Go.Sort Go.Shelf
set_option linter.unusedVariables false
set_option linter.unusedSimpArgs false

structure PRun (w : World) (B : Nat) (W : World) (F : Nat → Prop) (g : Nat) (R : Nat → Prop) (r : Nat) (s t : Mach) : Prop where
  run : MRun w B W F g s
  ref : RefAt W R r t
  good : GoodM t
  dis : ∀ k, R k → ¬ F k
  nr : ¬ F r
  rl : ∀ k, R k → k < W.heap.size
  r0 : w.heap.size ≤ r
section
variable {w W W' : World} {B : Nat} {F : Nat → Prop} {g : Nat} {R : Nat → Prop} {r : Nat} {s t : Mach}
theorem MRun.aside (h : MRun w B W F g s) {G G' : Nat → Prop} (st : Step W W' G G') (hF : ∀ k, F k → ¬ G k) (hG : ∀ k, G k → w.heap.size ≤ k) : MRun w B W' F g s := by
  obtain ⟨fA, fn, fc, es, uA, un, uc, nA, nn, nc, us, pA, pn, pc, hm⟩ := h.mach
  have hs := st.size
  have hz := h.bel.size
  exact ⟨⟨fA, fn, fc, es, uA, un, uc, nA, nn, nc, us, pA, pn, pc, hm.step st hF⟩, h.good, h.small, h.foot, fun k hk => by have := h.lt k hk; omega, h.bel.trans (st.below hz hG), h.g0, h.b0, Nat.le_trans h.b1 hs⟩
theorem PRun.aside (h : PRun w B W F g R r s t) {G G' : Nat → Prop} (st : Step W W' G G') (hF : ∀ k, F k → ¬ G k) (hR : ∀ k, R k → ¬ G k) (hr : ¬ G r) (hG : ∀ k, G k → w.heap.size ≤ k) : PRun w B W' F g R r s t := by
  obtain ⟨o, pA, pn, pc, hv⟩ := h.ref
  exact ⟨h.run.aside st hF hG, ⟨o, pA, pn, pc, hv.step st hR hr⟩, h.good, h.dis, h.nr, fun k hk => Nat.lt_of_lt_of_le (h.rl k hk) st.size, h.r0⟩
theorem PRun.below (h : PRun w B W F g R r s t) (hb : Below W.heap.size W W') : PRun w B W' F g R r s t := h.aside (step_below hb) (fun _ _ h => h) (fun _ _ h => h) (fun h => h) (fun _ h => h.elim)
theorem RefAt.lt (h : RefAt W R r t) : r < W.heap.size := by obtain ⟨o, pA, pn, pc, hv⟩ := h; exact hv.blk.lt
theorem PRun.machine (h : PRun w B W F g R r s t) {a : ActP} (ha : SmallP a) {e : Ending} (hp : MachPost W F g (doM s a) e W') : e = .returned (.int .i64 (doM s a).2) ∧ PRun w B W' (Fn F W W') g R r (doM s a).1 t ∧ Step W W' F (Fn F W W') := by
  obtain ⟨h1, h2, h3⟩ := h.run.did ha hp
  obtain ⟨o, pA, pn, pc, hv⟩ := h.ref
  have hs := h3.size
  refine ⟨h1, ⟨h2, ⟨o, pA, pn, pc, hv.step h3 h.dis h.nr⟩, h.good, fun k hk hF => ?_, fun hF => ?_, fun k hk => Nat.lt_of_lt_of_le (h.rl k hk) hs, h.r0⟩, h3⟩
  · rcases hF with hF | hF
    · exact h.dis k hk hF
    · have := h.rl k hk; omega
  · rcases hF with hF | hF
    · exact h.nr hF
    · have := hv.blk.lt; omega
theorem PRun.refer (h : PRun w B W F g R r s t) {a : ActP} {e : Ending} (hp : RefPost W R r (doM t a) e W') : e = .returned (.int .i64 (doM t a).2) ∧ PRun w B W' F g (Fn R W W') r s (doM t a).1 ∧ Step W W' (fun k => k = r) (fun k => k = r) := by
  obtain ⟨h1, h2, h3⟩ := hp
  have hr := h.r0
  have hrl := h.ref.lt
  have hs := h3.size
  refine ⟨h1, ⟨h.run.aside h3 (fun k hk e => h.nr (by rw [← show k = r from e]; exact hk)) (fun k hk => by omega), h2, doM_good h.good a, fun k hk hF => ?_, h.nr, fun k hk => ?_, h.r0⟩, h3⟩
  · rcases hk with hk | hk
    · exact h.dis k hk hF
    · have := h.run.lt k hF; omega
  · rcases hk with hk | hk
    · exact Nat.lt_of_lt_of_le (h.rl k hk) hs
    · exact hk.2
theorem PRun.doRef (h : PRun w B W F g R r s t) (hp : t.plan.length ≤ 1000000000) {C : Nat} {a : AV} (ha : ActAt W C a) (hC : C ≤ W.heap.size) (hs : SmallA a) (hsep : (∀ x, a.unit.A = some x → x.block ≠ r) ∧ (∀ x, a.unit.A2 = some x → x.block ≠ r)) :
    Calls Tryd.prog 16 #[.pointer (some ⟨r, 0, none⟩), .agg (avArr a)] W (RefPost W R r (doM t a.act)) := by
  obtain ⟨o, pA, pn, pc, hv⟩ := h.ref
  exact refDo20_any hv h.good h.rl (by have := hv.lens.2.2.2.2.2; omega) a ha hC hs hsep
/-- What the reference's machine is, as Same takes it. -/
theorem PRun.told (h : PRun w B W F g R r s t) : ∃ o : OV, (LoadS 38 (.pointer (some ⟨r, 0, none⟩))).run Tryd.prog W = .ok (.agg (ovArr o)) W ∧ ObsAt W W.heap.size o ∧ o.es.map EV.ent = t.files ∧ o.users = t.users ∧ o.us.map SV.srv = t.units := by
  obtain ⟨o, pA, pn, pc, hv⟩ := h.ref
  refine ⟨o, ?_, hv.obs.at_, hv.ents, hv.users, hv.srvs⟩
  have h1 := LoadS.of_blk (P := Tryd.prog) (n := 3) (o := 0) hv.blk Tryd.underlying38 rfl (by kernel_rfl) (by show 0 + 3 ≤ 4; omega)
  exact h1
/-- Both are emptied. -/
theorem PRun.reset (h : PRun w B W F g R r s t) {W2 : World} (hm : MachAt W2 F g ⟨[], [], [], s.plan⟩) (hst : Step W W2 F F) : PRun w B W2 F g R r ⟨[], [], [], s.plan⟩ t := by
  obtain ⟨o, pA, pn, pc, hv⟩ := h.ref
  have hs := hst.size
  have hz := h.run.bel.size
  exact ⟨⟨hm, ⟨List.Pairwise.nil, List.Pairwise.nil, (fun u h => by cases h), List.Pairwise.nil, Nat.zero_le _, Nat.zero_le _, Nat.zero_le _⟩, ⟨(fun x h => by cases h), (fun u h => by cases h)⟩, h.run.foot, fun k hk => Nat.lt_of_lt_of_le (h.run.lt k hk) hs, h.run.bel.trans (hst.below hz h.run.low), h.run.g0, h.run.b0, Nat.le_trans h.run.b1 hs⟩, ⟨o, pA, pn, pc, hv.step hst h.dis h.nr⟩, h.good, h.dis, h.nr, fun k hk => Nat.lt_of_lt_of_le (h.rl k hk) hs, h.r0⟩
theorem PRun.clear (h : PRun w B W F g R r s t) : ∃ v0 v1 v2, W.cell? ⟨r, 0, none⟩ = some v0 ∧ W.cell? ⟨r, 1, none⟩ = some v1 ∧ W.cell? ⟨r, 2, none⟩ = some v2 ∧ (∀ i, W.frozen? ⟨r, i, none⟩ = false) ∧
    PRun w B (((W.setCell ⟨r, 0, none⟩ (.slice none 0 0)).setCell ⟨r, 1, none⟩ (.slice none 0 0)).setCell ⟨r, 2, none⟩ (.slice none 0 0)) F g R r s ⟨[], [], [], t.plan⟩ := by
  obtain ⟨o, pA, pn, pc, hv⟩ := h.ref
  have nilE : ∀ W, EntsAt W W.heap.size none 0 0 [] := fun W => ⟨slc_none _ _ _, rfl, (fun e he => by cases he)⟩
  have nilU : ∀ W, UnitsAt W W.heap.size none 0 0 [] := fun W => ⟨slc_none _ _ _, rfl, (fun e he => by cases he), (fun e he => by cases he)⟩
  have h1 := hv.setFiles (nilE W) (fun a ha => by cases ha) (fun e he => by cases he)
  have h2 := h1.setUsers (l := []) (slc_none _ _ _) (fun a ha => by cases ha)
  have h3 := h2.setUnits (nilU _) (fun a ha => by cases ha) (fun e he => by cases he)
  have st : Step W (((W.setCell ⟨r, 0, none⟩ (.slice none 0 0)).setCell ⟨r, 1, none⟩ (.slice none 0 0)).setCell ⟨r, 2, none⟩ (.slice none 0 0)) (fun k => k = r) (fun k => k = r) :=
    (((Step.refl W (fun k => k = r)).setCell (p := ⟨r, 0, none⟩) (.inl rfl) _).setCell (p := ⟨r, 1, none⟩) (.inl rfl) _).setCell (p := ⟨r, 2, none⟩) (.inl rfl) _
  have hr := h.r0
  exact ⟨_, _, _, hv.facts.1, hv.facts.2.1, hv.facts.2.2.1, hv.facts.2.2.2.2, h.run.aside st (fun k hk e => h.nr (by rw [← show k = r from e]; exact hk)) (fun k hk => by omega), ⟨_, _, _, _, h3⟩, ⟨List.Pairwise.nil, List.Pairwise.nil, (fun u h => by cases h), List.Pairwise.nil, Nat.zero_le _, Nat.zero_le _, Nat.zero_le _⟩, h.dis, h.nr, fun k hk => Nat.lt_of_lt_of_le (h.rl k hk) st.size, h.r0⟩
/-- A step copied, and kept in a variable. -/
structure CopyV (W5 W : World) (G : Nat → Prop) (v : Nat) (a a' : AV) : Prop where
  act : a'.act = a.act
  data : WrB W G 5 1 a'.file.A a'.file.n
  req : WrB W G 9 1 a'.unit.A a'.unit.n
  aft : WrB W G 9 1 a'.unit.A2 a'.unit.n2
  lens : ActLens a'
  caps : a'.file.c ≤ maxLen ∧ a'.unit.c ≤ maxLen ∧ a'.unit.c2 ≤ maxLen
  var : Blk W v 48 (avArr a')
theorem wrb_row {w : World} {F : Nat → Prop} {t : TypeId} {sz : Nat} {A : Option Addr} {n m c : Nat} {xs : List Value} (h : Row w F t sz (.slice A m c) n xs) : WrB w (fun k => F k ∧ k < w.heap.size) t sz A n := by
  rcases h.own.2 with ⟨_, h0⟩ | ⟨g, cap, cur, e, _, h2, h3, h4, h5, _⟩
  · exact .inl h0
  · injection e with e
    exact .inr ⟨g, cur, e, h2, by rw [h5]; exact Nat.mul_le_mul_right _ h3, h.foot g (by rw [e]; rfl), lt_of_heap h2⟩
theorem WrB.wide {w : World} {G G' : Nat → Prop} {t : TypeId} {sz : Nat} {A : Option Addr} {n : Nat} (h : WrB w G t sz A n) (hG : ∀ k, G k → G' k) : WrB w G' t sz A n := by
  rcases h with h | ⟨g, cur, h1, h2, h3, h4⟩
  · exact .inl h
  · exact .inr ⟨g, cur, h1, h2, h3, hG _ h4⟩
theorem WrB.step {w w' : World} {G F F' : Nat → Prop} {t : TypeId} {sz : Nat} {A : Option Addr} {n : Nat} (h : WrB w G t sz A n) (st : Step w w' F F') (hd : ∀ k, G k → ¬ F k) : WrB w' G t sz A n := by
  rcases h with h | ⟨g, cur, h1, h2, h3, h4⟩
  · exact .inl h
  · exact .inr ⟨g, cur, h1, h2.step st (hd _ h4), h3, h4⟩
theorem row_cap {w : World} {F : Nat → Prop} {t : TypeId} {sz : Nat} {A : Option Addr} {n m c : Nat} {xs : List Value} (h : Row w F t sz (.slice A m c) n xs) : c ≤ maxLen := by
  rcases h.own.2 with ⟨e, h0⟩ | ⟨g, cap, cur, e, _, h2, h3, h4, _⟩
  · injection e with _ _ e; omega
  · injection e with _ _ e; omega
theorem CopyV.new {W5 w6 : World} {a a' : AV} (he : a'.act = a.act) (ho : OwnAct w6 (fun k => W5.heap.size ≤ k) a') (hl : ActLens a') : CopyV W5 (w6.alloc (.cells (avArr a') 48)) (fun k => W5.heap.size ≤ k ∧ k < w6.heap.size) w6.heap.size a a' :=
  ⟨he, (wrb_row ho.data).below (bel_new _ _), (wrb_row ho.req).below (bel_new _ _), (wrb_row ho.aft).below (bel_new _ _), hl, ⟨row_cap ho.data, row_cap ho.req, row_cap ho.aft⟩, Blk.new _ _ _⟩
theorem CopyV.step {W5 W W' : World} {G F F' : Nat → Prop} {v : Nat} {a a' : AV} (h : CopyV W5 W G v a a') (st : Step W W' F F') (hd : ∀ k, G k → ¬ F k) (hv : ¬ F v) : CopyV W5 W' G v a a' :=
  ⟨h.act, h.data.step st hd, h.req.step st hd, h.aft.step st hd, h.lens, h.caps, h.var.step st hv⟩
theorem CopyV.ok {W5 W : World} {G : Nat → Prop} {v : Nat} {a a' : AV} (h : CopyV W5 W G v a a') : SpoilOk W G a' := ⟨h.data, h.req, h.aft, h.lens, h.caps⟩
/-- What was observed may be written over. -/
theorem ObsOut.wreck {W W4 : World} {A : Option Addr} {n c : Nat} {es : List EV} {A2 : Option Addr} {n2 c2 : Nat} {A3 : Option Addr} {n3 c3 : Nat} {us : List SV} (h : ObsOut W W4 s A n c es A2 n2 c2 A3 n3 c3 us) (hg : GoodM s) (hs : SmallM s) : WreckOk W4 (fun k => W.heap.size ≤ k ∧ k < W4.heap.size) ⟨A, n, c, es, A2, n2, c2, s.users, A3, n3, c3, us⟩ := by
  have hl := h.files.len
  have hul := h.units.len
  have e1 := congrArg List.length h.ents
  have e3 := congrArg List.length h.srvs
  rw [List.length_map] at e1 e3
  have e2 : s.users.length = n2 := by have := h.users.own.1; simpa using this
  have g1 := hg.nf
  have g2 := hg.nu
  have g3 := hg.nn
  have rowF : Row W4 (fun k => W.heap.size ≤ k ∧ k < W4.heap.size) 44 3 (.slice A n c) n (es.flatMap evCells) := ⟨⟨h.files.own.1, h.files.own.2.imp id fun ⟨g, cap, cur, e, _, r⟩ => ⟨g, cap, cur, e, Nat.zero_le _, r⟩⟩, fun k hk => h.files.own.lt k hk⟩
  have rowU : Row W4 (fun k => W.heap.size ≤ k ∧ k < W4.heap.size) 46 4 (.slice A3 n3 c3) n3 (us.flatMap svCells) := ⟨h.units.row.own, fun k hk => ⟨h.units.row.foot k hk, (h.units.row.own.lt k hk).2⟩⟩
  refine ⟨RemB.of_row rowF (fun _ h => h), hl, fun e he => ?_, wrb_row h.users, RemB.of_row rowU (fun _ h => h), hul, fun u hu => ?_, by show n ≤ 1000000 ∧ n2 ≤ 1000000 ∧ n3 ≤ 1000000; omega⟩
  · obtain ⟨g, q1, q2, q3, _⟩ := h.files.data e he
    obtain ⟨cur, hc⟩ := h.files.free e he g q1
    have hS := h.files.slc e he
    have hlen : e.data.length = e.n := by have := hS.len; simpa using this
    have hd : e.data.length ≤ 1000000000 := hs.data e.ent (by rw [← h.ents]; exact List.mem_map.2 ⟨e, he, rfl⟩)
    refine ⟨?_, by omega⟩
    rcases Nat.eq_zero_or_pos e.n with h0 | h0
    · exact .inl h0
    · refine .inr ⟨g, cur, q1, hc, ?_, q2, q3⟩
      obtain ⟨b, off, eA, _, hcell⟩ := hS.at_ h0
      rw [q1] at eA
      cases eA
      have hB : Blk W4 g 5 cur := hc
      have h1 := hcell (e.n - 1) (bv (e.data[e.n - 1]'(by omega))) (by rw [List.getElem?_map, List.getElem?_eq_getElem (by omega)]; rfl)
      rw [hB.cell, Nat.zero_add] at h1
      have := (Array.getElem?_eq_some_iff.1 h1).1
      omega
  · have h1 := hs.lists u.srv (by rw [← h.srvs]; exact List.mem_map.2 ⟨u, hu, rfl⟩)
    have q1 := h.units.req u hu
    have q2 := h.units.aft u hu
    have l1 : u.req.length = u.n := by have := q1.own.1; simpa using this
    have l2 : u.aft.length = u.n2 := by have := q2.own.1; simpa using this
    have m1 : u.req.length ≤ 1000000000 := h1.1
    have m2 : u.aft.length ≤ 1000000000 := h1.2
    exact ⟨⟨wrb_row q1, by omega, row_cap q1⟩, wrb_row q2, by omega, row_cap q2⟩
end
end Go.Proofs.YtibndaianhlcaaaDoor
