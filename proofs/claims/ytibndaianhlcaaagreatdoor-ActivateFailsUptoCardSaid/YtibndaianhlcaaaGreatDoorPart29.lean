/- activate.Run: steps are done up to the first that fails. -/
import Derived.Test.YtibndaianhlcaaaGreatDoorPart28
namespace Go.Proofs.YtibndaianhlcaaaGreatDoor
open Go.RowKit Go.Sort Go.Shelf
set_option linter.unusedVariables false
set_option linter.unusedSimpArgs false

/-- Steps in memory, all in blocks of G. -/
structure ActsK (W : World) (G : Nat → Prop) (A : Option Addr) (n c : Nat) (l : List AV) : Prop where
  at_ : ActsAt W W.heap.size A n c l
  row : 0 < n → ∀ x, A = some x → G x.block
  data : ∀ a ∈ l, 0 < a.file.n → ∀ x, a.file.A = some x → G x.block
  req : ∀ a ∈ l, 0 < a.unit.n → ∀ x, a.unit.A = some x → G x.block
  aft : ∀ a ∈ l, 0 < a.unit.n2 → ∀ x, a.unit.A2 = some x → G x.block
theorem ActsK.step {W W' : World} {G F F' : Nat → Prop} {A : Option Addr} {n c : Nat} {l : List AV} (h : ActsK W G A n c l) (st : Step W W' F F') (hd : ∀ k, G k → ¬ F k) : ActsK W' G A n c l := by
  have key : ∀ {sz : Nat} {A : Option Addr} {n c : Nat} {xs : List Value}, Slc W W.heap.size sz A n c xs → (0 < n → ∀ a, A = some a → G a.block) → Slc W' W'.heap.size sz A n c xs := fun hs hg => (hs.apart0 st (fun hn a ha hF => hd _ (hg hn a ha) hF)).more st.size
  exact ⟨⟨key h.at_.slc h.row, h.at_.len, fun a ha => ⟨key (h.at_.acts a ha).data (h.data a ha), key (h.at_.acts a ha).req (h.req a ha), key (h.at_.acts a ha).aft (h.aft a ha)⟩⟩, h.row, h.data, h.req, h.aft⟩
theorem ActsK.below {W W' : World} {G : Nat → Prop} {A : Option Addr} {n c : Nat} {l : List AV} (h : ActsK W G A n c l) (hb : Below W.heap.size W W') : ActsK W' G A n c l := h.step (step_below hb) (fun _ _ h => h)
theorem ActsK.low {W : World} {B : Nat} {A : Option Addr} {n c : Nat} {l : List AV} (h : ActsAt W B A n c l) (hB : B ≤ W.heap.size) : ActsK W (fun k => k < B) A n c l := by
  have key : ∀ {sz : Nat} {A : Option Addr} {n c : Nat} {xs : List Value}, Slc W B sz A n c xs → 0 < n → ∀ x, A = some x → x.block < B := fun hs hn x hx => by
    obtain ⟨b, off, e, hb, _⟩ := hs.at_ hn
    rw [hx] at e
    rw [Option.some.inj e]
    exact hb
  exact ⟨⟨h.slc.more hB, h.len, fun a ha => (h.acts a ha).more hB⟩, key h.slc, fun a ha => key (h.acts a ha).data, fun a ha => key (h.acts a ha).req, fun a ha => key (h.acts a ha).aft⟩
theorem run_ok : ∀ {L : List ActP} {s s' : Mach} {k : Nat} (hk : k < L.length), runM s (L.take k) = (s', k, 0) → (doM s' L[k]).2 = 0 → runM s (L.take (k + 1)) = ((doM s' L[k]).1, k + 1, 0)
  | a :: L, s, s', 0, _, h, h0 => by
    simp only [List.take_zero, runM, Prod.mk.injEq] at h
    obtain ⟨rfl, -⟩ := h
    have h0 : (doM s a).2 = 0 := h0
    show runM s [a] = _
    simp [runM, h0]
  | a :: L, s, s', k + 1, hk, h, h0 => by
    rw [List.take_succ_cons] at h
    rw [List.take_succ_cons]
    unfold runM at h ⊢
    by_cases h1 : (doM s a).2 = 0
    · rw [if_pos h1] at h ⊢
      simp only [Prod.mk.injEq] at h
      obtain ⟨e1, e2, e3⟩ := h
      have ih := run_ok (L := L) (s := (doM s a).1) (s' := s') (k := k) (by simpa using hk) (by rw [← e1]; ext <;> simp_all) (by simpa using h0)
      rw [ih]
      simp
    · rw [if_neg h1] at h
      simp only [Prod.mk.injEq] at h
      omega
theorem run_bad : ∀ {L : List ActP} {s s' : Mach} {k : Nat} (hk : k < L.length), runM s (L.take k) = (s', k, 0) → ¬ (doM s' L[k]).2 = 0 → runM s L = ((doM s' L[k]).1, k, (doM s' L[k]).2)
  | a :: L, s, s', 0, _, h, h0 => by
    simp only [List.take_zero, runM, Prod.mk.injEq] at h
    obtain ⟨rfl, -⟩ := h
    have h0 : ¬ (doM s a).2 = 0 := h0
    unfold runM
    rw [if_neg h0]
    rfl
  | a :: L, s, s', k + 1, hk, h, h0 => by
    rw [List.take_succ_cons] at h
    unfold runM at h ⊢
    by_cases h1 : (doM s a).2 = 0
    · rw [if_pos h1] at h ⊢
      simp only [Prod.mk.injEq] at h
      obtain ⟨e1, e2, e3⟩ := h
      have ih := run_bad (L := L) (s := (doM s a).1) (s' := s') (k := k) (by simpa using hk) (by rw [← e1]; ext <;> simp_all) (by simpa using h0)
      rw [ih]
      simp
    · rw [if_neg h1] at h
      simp only [Prod.mk.injEq] at h
      omega
/-- What Run gives. -/
def RunPost (w : World) (B : Nat) (W : World) (F : Nat → Prop) (g : Nat) (r : Mach × Nat × Int) : Ending → World → Prop := fun e w' => e = .returned (.tuple #[.int .i64 (r.2.1 : Int), .int .i64 r.2.2]) ∧ ∃ F', MRun w B w' F' g r.1 ∧ Step W w' F F'
set_option maxRecDepth 100000 in
set_option maxHeartbeats 4000000 in
theorem run21_any {w W : World} {B g : Nat} {F : Nat → Prop} {s : Mach} (h : MRun w B W F g s) {G : Nat → Prop} {A : Option Addr} {n c : Nat} {l : List AV} (ha : ActsK W G A n c l) (hs : ∀ a ∈ l, SmallA a) (hd : ∀ k, G k → ¬ F k) (hG : ∀ k, G k → k < W.heap.size) :
    Calls Tryz.prog 22 #[.pointer (some ⟨g, 0, none⟩), .slice A n c] W (RunPost w B W F g (runM s (l.map AV.act))) := by
  have H := Lib.hid h
  have HA := Lib.hid ha
  have HS := Lib.hid hs
  have HD := Lib.hid hd
  have HG := Lib.hid hG
  have HL := Lib.hid (show (l.map AV.act).length = n by rw [List.length_map, ha.at_.len])
  have hn62 : n ≤ 9223372036854775807 := by have := ha.at_.slc.le; have := ha.at_.slc.cmax; unfold maxLen at this; omega
  clear h ha hs hd hG
  go_enter Tryz.func22, Tryz.ntmps22
  go_wp2_with (fail)
  go_loopw [11] (fun i wr => ∃ k : Nat, k ≤ n ∧ i = .int .i64 (k : Int) ∧ Aside (∃ F' s', MRun w B wr F' g s' ∧ Step W wr F F' ∧ runM s ((l.map AV.act).take k) = (s', k, 0))) (fun i _ => n - (intOf i).toNat)
  case atStart => exact ⟨0, Nat.zero_le _, rfl, F, s, H.out, Step.refl _ _, rfl⟩
  case round =>
    obtain ⟨k, hk, rfl, hrun⟩ := hrel
    obtain ⟨F', s', hR, hst, hto⟩ := hrun.out
    have hd' : ∀ q, G q → ¬ F' q := fun q hq hF => by
      rcases hst.next q hF with h9 | h9
      · exact HD.out q hq h9
      · have := HG.out q hq; omega
    have hK := HA.out.step hst HD.out
    by_cases hlt : k < n
    · obtain ⟨b, off, rfl, hbB, hl, hcs⟩ := hK.at_.cells hlt
      have hat := hK.at_.acts _ (List.getElem_mem hl)
      have hsm := HS.out _ (List.getElem_mem hl)
      have hap : ActApart F' l[k] := ⟨fun hn x hx => hd' _ (hK.req _ (List.getElem_mem hl) hn x hx), fun hn x hx => hd' _ (hK.aft _ (List.getElem_mem hl) hn x hx)⟩
      have hkl : k < (l.map AV.act).length := by rw [HL.out]; exact hlt
      have hget : (l.map AV.act)[k] = l[k].act := by rw [List.getElem_map]
      have HOK := Lib.hid (fun h0 => run_ok hkl hto (by rw [hget]; exact h0))
      have HBAD := Lib.hid (fun h0 => run_bad hkl hto (by rw [hget]; exact h0))
      rw [hget] at HOK HBAD
      have HSP := Lib.hid (hat.small hsm)
      generalize l[k] = a at *
      obtain ⟨W1, hW1⟩ : ∃ W1, W1 = wr.alloc (.cells (avArr a) 61) := ⟨_, rfl⟩
      have hb1 : Below wr.heap.size wr W1 := by rw [hW1]; exact bel_new _ _
      have hR1 := hR.below hb1
      have hdo := hR1.do_ (hat.below hb1) hb1.size hsm hap
      have HR1 := Lib.hid hR1
      have HST := Lib.hid (hst.trans (Step.of_below hb1 F'))
      obtain ⟨kind, name, ⟨fp, fk, fd, fA, fn, fc⟩, ⟨nm, st, rq, A1, n1, k1, af, A2, n2, k2⟩⟩ := a
      have c0 : wr.cell? ⟨b, off + k * 9, none⟩ = some (.int .i64 kind) := hcs 0 _ rfl
      have c1 : wr.cell? ⟨b, off + k * 9 + 1, none⟩ = some (.string ⟨name.toArray⟩) := hcs 1 _ rfl
      have c2 : wr.cell? ⟨b, off + k * 9 + 2, none⟩ = some (.string ⟨fp.toArray⟩) := hcs 2 _ rfl
      have c3 : wr.cell? ⟨b, off + k * 9 + 3, none⟩ = some (.int .i64 fk) := hcs 3 _ rfl
      have c4 : wr.cell? ⟨b, off + k * 9 + 4, none⟩ = some (.slice fA fn fc) := hcs 4 _ rfl
      have c5 : wr.cell? ⟨b, off + k * 9 + 5, none⟩ = some (.string ⟨nm.toArray⟩) := hcs 5 _ rfl
      have c6 : wr.cell? ⟨b, off + k * 9 + 6, none⟩ = some (.string ⟨st.toArray⟩) := hcs 6 _ rfl
      have c7 : wr.cell? ⟨b, off + k * 9 + 7, none⟩ = some (.slice A1 n1 k1) := hcs 7 _ rfl
      have c8 : wr.cell? ⟨b, off + k * 9 + 8, none⟩ = some (.slice A2 n2 k2) := hcs 8 _ rfl
      rw [hW1] at hdo
      have HW1 := Lib.hid hW1
      unfold avArr at hdo
      simp only at hdo
      clear hcs hat hsm hap hb1 hR1 hW1 hrun hR hst hto hd' hK hget
      by_cases h0 : (doM s' (⟨kind, name, ⟨fp, fk, fd, fA, fn, fc⟩, ⟨nm, st, rq, A1, n1, k1, af, A2, n2, k2⟩⟩ : AV).act).2 = 0
      · have HX := Lib.hid (HOK.out h0)
        have H0 := Lib.hid h0
        clear h0
        go_wp2_with (go_at_call 42; refine hdo.mono ?_; clear hdo; intro e6 w6 hq; obtain ⟨rfl, h6, st6⟩ := HR1.out.did HSP.out (show MachPost W1 _ _ _ _ _ by rw [HW1.out]; exact hq); have H6 := Lib.hid (And.intro h6 (HST.out.trans st6)); clear hq h6 st6; rw [H0.out])
        exact ⟨⟨k + 1, by omega, by go_num, _, _, H6.out.1, H6.out.2, HX.out⟩, by simp [intOf]; omega⟩
      · have HX := Lib.hid (HBAD.out h0)
        obtain ⟨z, hz⟩ : ∃ z, z = (doM s' (⟨kind, name, ⟨fp, fk, fd, fA, fn, fc⟩, ⟨nm, st, rq, A1, n1, k1, af, A2, n2, k2⟩⟩ : AV).act).2 := ⟨_, rfl⟩
        have hz0 : (z == 0) = false := by rw [beq_eq_false_iff_ne, hz]; exact h0
        have hz1 : ¬ z = 0 := by rw [hz]; exact h0
        have HZ := Lib.hid hz
        clear h0 hz
        go_wp2_with (go_at_call 42; refine hdo.mono ?_; clear hdo; intro e6 w6 hq; obtain ⟨rfl, h6, st6⟩ := HR1.out.did HSP.out (show MachPost W1 _ _ _ _ _ by rw [HW1.out]; exact hq); have H6 := Lib.hid (And.intro h6 (HST.out.trans st6)); clear hq h6 st6; rw [← HZ.out])
        go_ret2
        unfold RunPost
        rw [HX.out]
        exact ⟨by rw [HZ.out]; rfl, _, H6.out.1, H6.out.2⟩
    · obtain rfl : k = n := by omega
      have HX := Lib.hid (show runM s (l.map AV.act) = (s', k, 0) by rw [← hto, List.take_of_length_le (by rw [HL.out]; exact Nat.le_refl _)])
      have HH := Lib.hid (And.intro hR hst)
      clear hrun hR hst hto hd' hK
      go_wp2_with (fail)
      go_ret2
      unfold RunPost
      rw [HX.out]
      exact ⟨rfl, _, HH.out.1, HH.out.2⟩
end Go.Proofs.YtibndaianhlcaaaGreatDoor
