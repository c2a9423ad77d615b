/- activate.entries: a system's entries, in memory of their own. slices.ContainsFunc and slices.Contains as activate calls them; same, alike. -/
import Derived.Test.YtibndaianhlcaaaGreatDoorPart17
import Derived.Test.YtibndaianhlcaaaGreatDoorPart21
import Derived.Deep.RegionHeldLaw
import Derived.Test.YtibndaianhlcaaaGreatDoorPart18
namespace Go.Proofs.YtibndaianhlcaaaGreatDoor
open Go.RowKit Go.Sort Go.Shelf
open Go.WideShapes (bytes_inj)
set_option linter.unusedVariables false
set_option linter.unusedSimpArgs false

/-- A system whose texts are those of an argument. -/
structure SmallO (o : OV) : Prop where
  ents : ∀ e ∈ o.es, e.path.length ≤ 1048576 ∧ e.data.length ≤ 1048576
  users : ∀ t ∈ o.users, t.length ≤ 1048576
  units : ∀ u ∈ o.us, SmallU u
  n : o.n ≤ 1048576
  n2 : o.n2 ≤ 1048576
  n3 : o.n3 ≤ 1048576
def sysO (o : OV) : SysP := ⟨o.es.map EV.ent, o.users, o.us.map SV.srv⟩
/-- Bytes that may be written: their block is of bytes, none of them frozen. -/
def ByteB (w : World) (g n : Nat) : Prop := ∃ cur fz, w.heap[g]? = some (.cells cur 5 fz) ∧ n ≤ cur.size ∧ (fz = (0, 0) ∨ cur.size ≤ fz.1)
/-- Entries in memory of the call's own. -/
structure LaidAt (w : World) (base : Nat) (A : Option Addr) (n c : Nat) (es : List EV) : Prop where
  ents : EntsAt w w.heap.size A n c es
  row : ∀ a, A = some a → base ≤ a.block ∧ a.block < w.heap.size
  data : ∀ e ∈ es, ∃ g, e.A = some ⟨g, 0, none⟩ ∧ base ≤ g ∧ g < w.heap.size ∧ (∀ a, A = some a → a.block ≠ g) ∧ ByteB w g e.n
def LaidPost (w : World) (o : OV) : Ending → World → Prop := fun e w' => ∃ A n c es fs x, e = .returned (.slice A n c) ∧ es = fs ++ [x] ∧ es.map EV.ent = laidS (sysO o) ∧ LaidAt w' w.heap.size A n c es ∧ (∀ e ∈ fs, e.A ≠ x.A) ∧ Below w.heap.size w w'
/-- One round of entries: the bytes are copied, the entry is put behind. -/
structure EntPut (wr : World) (base : Nat) (A' : Option Addr) (k c' : Nat) (es : List EV) (e : EV) (path : Txt) (ps : ByteArray) (w3 : World) (g3 c3 : Nat) (A6 : Option Addr) (c6 : Nat) (w6 : World) : Prop where
  r3 : (Builtin.append_ #[33, 33] 33 #[.slice (some ⟨wr.heap.size + 1, 0, none⟩) 0 0, .slice e.A e.n e.c]).run Tryz.prog ((wr.alloc (.cells #[.string ⟨e.path.toArray⟩, .int .i64 e.kind, .slice e.A e.n e.c] 35)).alloc (.cells #[] 5)).drew = .ok (.slice (some ⟨g3, 0, none⟩) e.n c3) w3
  r6 : (Builtin.append_ #[22, 22] 22 #[.slice A' k c', .slice (some ⟨w3.heap.size, 0, none⟩) 1 1]).run Tryz.prog (w3.alloc (.cells #[.string ps, .int .i64 e.kind, .slice (some ⟨g3, 0, none⟩) e.n c3] 35)) = .ok (.slice A6 (k + 1) c6) w6
  blk6 : Blk w6 wr.heap.size 35 #[.string ⟨e.path.toArray⟩, .int .i64 e.kind, .slice e.A e.n e.c]
  blk : Blk w3 wr.heap.size 35 #[.string ⟨e.path.toArray⟩, .int .i64 e.kind, .slice e.A e.n e.c]
  own : OwnEnts w6 base (.slice A6 (k + 1) c6) (k + 1) (es ++ [⟨path, e.kind, e.data, some ⟨g3, 0, none⟩, e.n, c3⟩])
theorem ent_put {w wr : World} {A' : Option Addr} {k c' : Nat} {es : List EV} {B : Nat} (h : OwnEnts wr w.heap.size (.slice A' k c') k es) (hb : Below w.heap.size w wr) (e : EV) (hS : Slc wr B 1 e.A e.n e.c (e.data.map bv)) (hB : B ≤ wr.heap.size) (hk : k ≤ 1000000000) (hn : e.n ≤ 1000000000) (path : Txt) (ps : ByteArray) (hps : ps = ⟨path.toArray⟩) :
    ∃ w3 g3 c3 A6 c6 w6, EntPut wr w.heap.size A' k c' es e path ps w3 g3 c3 A6 c6 w6 ∧ Below w.heap.size w w6 := by
  obtain ⟨W1, hW1⟩ : ∃ W1, W1 = (wr.alloc (.cells #[.string ⟨e.path.toArray⟩, .int .i64 e.kind, .slice e.A e.n e.c] 35)).drew := ⟨_, rfl⟩
  have hb1 : Below wr.heap.size wr W1 := by rw [hW1]; exact ((Below.refl _ wr).alloc (Nat.le_refl _) _).drew
  have hz1 : W1.heap.size = wr.heap.size + 1 := by rw [hW1]; simp
  obtain ⟨g3, c3, w3, S⟩ := bytes_copy (hS.below (hb1.mono hB)) (by omega) hn
  have hbw3 : Below wr.heap.size wr w3 := hb1.trans (S.bel.mono hb1.size)
  have h3 := h.below hbw3
  have hs := hb.size
  have hge := S.ge
  obtain ⟨A6, c6, w6, r6, o6, g6, _⟩ := h3.append ⟨path, e.kind, e.data, some ⟨g3, 0, none⟩, e.n, c3⟩ (own_slc_of S.own) ⟨g3, rfl, by omega, S.lt, fun e9 => by have := (h.own.lt _ e9).2; omega⟩ (fun g hg => by injection hg with hg; injection hg with hg; subst hg; exact FreeB.own S.own) hk (Nat.le_trans hs hbw3.size)
  have r3 := S.run
  rw [hz1, hW1] at r3
  subst hps
  have hG : Blk W1 wr.heap.size 35 #[.string ⟨e.path.toArray⟩, .int .i64 e.kind, .slice e.A e.n e.c] := by rw [hW1]; exact (Blk.new _ _ _).drew
  have hG3 := hG.below S.bel hG.lt
  have hG6 : Blk w6 wr.heap.size 35 #[.string ⟨e.path.toArray⟩, .int .i64 e.kind, .slice e.A e.n e.c] :=
    (g6.block wr.heap.size (Nat.lt_of_lt_of_le hG3.lt (by simp)) (fun e9 => by have := (h.own.lt _ e9.symm).2; omega)).trans (hG3.alloc _)
  exact ⟨w3, g3, c3, A6, c6, w6, ⟨r3, r6, hG6, hG3, o6⟩, grown_below ((hb.trans (hbw3.mono hs)).alloc (Nat.le_trans hs hbw3.size) _) (h3.own.alloc _) (by have := hbw3.size; simp; omega) g6⟩
theorem ByteB.of {w w' : World} {g n : Nat} (h : ByteB w g n) (hb : w'.heap[g]? = w.heap[g]?) : ByteB w' g n := by
  obtain ⟨cur, fz, h1, h2⟩ := h
  exact ⟨cur, fz, hb.trans h1, h2⟩
theorem ByteB.of_free {w : World} {g B n c : Nat} {l : Txt} (h : FreeB w g) (hS : Slc w B 1 (some ⟨g, 0, none⟩) n c (l.map bv)) : ByteB w g n := by
  obtain ⟨cur, hc⟩ := h
  refine ⟨cur, (0, 0), hc, ?_, .inl rfl⟩
  rcases Nat.eq_zero_or_pos n with h0 | h0
  · omega
  · obtain ⟨b, off, e, _, hat⟩ := hS.at_ h0
    injection e with e
    injection e with e1 e2
    subst e1 e2
    have hl := hS.len
    rw [Nat.mul_one] at hl
    obtain ⟨u, hu⟩ : ∃ u, (l.map bv)[n - 1]? = some u := ⟨_, List.getElem?_eq_getElem (by omega)⟩
    have h1 := hat (n - 1) u hu
    rw [Nat.zero_add] at h1
    have h2 : w.cell? ⟨g, n - 1, none⟩ = cur[n - 1]? := by simp [World.cell?, hc]
    rw [h2] at h1
    have := (Array.getElem?_eq_some_iff.1 h1).1
    omega
/-- []byte of a text: a block of its own, none of it frozen. -/
theorem text_bytes (w : World) (bs : ByteArray) (hm : bs.size ≤ maxLen) :
    ∃ cap w', (convert 9 33 (.string bs)).run Tryz.prog w = .ok (.slice (some ⟨w.heap.size, 0, none⟩) bs.size cap) w' ∧ Below w.heap.size w w' ∧ w'.heap.size = w.heap.size + 1 ∧ Slc w' (w.heap.size + 1) 1 (some ⟨w.heap.size, 0, none⟩) bs.size cap (bs.data.toList.map bv) ∧ ByteB w' w.heap.size bs.size := by
  obtain ⟨cap, w', h1, h2, h3, h4⟩ := convert_string (P := Tryz.prog) (src := 9) (dst := 33) Tryz.underlying9 Tryz.underlying33 Tryz.underlying5 w bs hm
  refine ⟨cap, w', h1, h2, h3, h4, ?_⟩
  have h5 := run_bytes_of_string (P := Tryz.prog) w 9 33 5 bs Tryz.underlying9 Tryz.underlying33 Tryz.underlying5
  rw [h1] at h5
  injection h5 with _ h6
  subst h6
  refine ⟨_, _, heap_alloc_new w.drew _, ?_, .inr (Nat.le_refl _)⟩
  unfold bytesRow
  rw [Array.size_append, Array.size_map]
  exact Nat.le_add_right _ _
/-- append of the last entry. -/
theorem ents_last {w : World} {base : Nat} {v : Value} {n : Nat} {es : List EV} (h : OwnEnts w base v n es) (e : EV) (hS : Slc w w.heap.size 1 e.A e.n e.c (e.data.map bv)) {g0 : Nat} (hg : e.A = some ⟨g0, 0, none⟩ ∧ base ≤ g0 ∧ g0 < w.heap.size ∧ v.ownBlock ≠ some g0) (hf : ByteB w g0 e.n) (hne : ∀ x ∈ es, x.A ≠ e.A)
    (hn : n ≤ 1000000000) (hbase : base ≤ w.heap.size) :
    ∃ A' c' w', (Builtin.append_ #[22, 22] 22 #[v, .slice (some ⟨w.heap.size, 0, none⟩) 1 1]).run Tryz.prog (w.alloc (.cells #[.string ⟨e.path.toArray⟩, .int .i64 e.kind, .slice e.A e.n e.c] 35)) = .ok (.slice A' (n + 1) c') w' ∧
      LaidAt w' base A' (n + 1) c' (es ++ [e]) ∧ (w.alloc (.cells #[.string ⟨e.path.toArray⟩, .int .i64 e.kind, .slice e.A e.n e.c] 35)).grownBy w' v.ownBlock := by
  obtain ⟨i, hi, hz0, hz1, hz2⟩ := info_parts ent_info
  have hs := slc_new w 35 (0, 0) #[.string ⟨e.path.toArray⟩, .int .i64 e.kind, .slice e.A e.n e.c] (sz := 3) (n := 1) (c := 1) rfl (Nat.le_refl _) (by decide)
  obtain ⟨A', c', w', h1, h2, h3, h4⟩ := append_slc (P := Tryz.prog) (w.alloc (.cells #[.string ⟨e.path.toArray⟩, .int .i64 e.kind, .slice e.A e.n e.c] 35)) base 22 22 35 i _ 3 48 Tryz.underlying22 hi hz0 hz1 hz2 rfl (by decide) v n (es.flatMap evCells) (h.own.alloc _) _ _ 1 1 (evCells e) hs (fun u hu => evCells_one [e] u (by simpa using hu)) (by unfold maxLen; omega) (by omega) (by simp; omega)
  rw [World.size_alloc] at h4
  have hz : w.heap.size + 1 ≤ w'.heap.size := by have := h3.size; simpa using this
  have hkeep : ∀ g, g < w.heap.size → v.ownBlock ≠ some g → w'.heap[g]? = w.heap[g]? := fun g g3 g4 => (h3.block g (by simp; omega) (fun e => g4 e.symm)).trans (Below.heap_alloc w _ g g3)
  have hall : ∀ x ∈ es ++ [e], Slc w w.heap.size 1 x.A x.n x.c (x.data.map bv) ∧ ∃ g, x.A = some ⟨g, 0, none⟩ ∧ base ≤ g ∧ g < w.heap.size ∧ v.ownBlock ≠ some g ∧ ByteB w g x.n := by
    intro x hx
    rcases List.mem_append.1 hx with hx | hx
    · obtain ⟨g, g1, g2, g3, g4⟩ := h.data x hx
      have hsx := h.slc x hx
      refine ⟨hsx, g, g1, g2, g3, g4, ?_⟩
      have hf := h.free x hx g g1
      rw [g1] at hsx
      exact ByteB.of_free hf hsx
    · rw [List.mem_singleton.1 hx]
      exact ⟨hS, g0, hg.1, hg.2.1, hg.2.2.1, hg.2.2.2, hf⟩
  have h2' : w'.ownsRow base 35 3 (.slice A' (n + 1) c') (n + 1) ((es ++ [e]).flatMap evCells) := by
    rw [List.flatMap_append, List.flatMap_cons, List.flatMap_nil, List.append_nil]
    exact h2
  refine ⟨A', c', w', h1, ⟨⟨own_slc_of h2', by rw [List.length_append, h.len]; rfl, fun x hx => ?_⟩, fun a ha => ?_, fun x hx => ?_⟩, h3⟩
  · obtain ⟨hsx, g, g1, g2, g3, g4, _⟩ := hall x hx
    refine ⟨hsx.len, hsx.le, hsx.cmax, fun hp => ?_⟩
    obtain ⟨b, off, e1, hb, hc⟩ := hsx.at_ hp
    refine ⟨b, off, e1, by omega, fun j u hu => ?_⟩
    obtain ⟨rfl, rfl, -⟩ := Addr.mk.inj (Option.some.inj (g1.symm.trans e1))
    rw [World.cell?_of_block (w := w) (a := ⟨g, 0 + j, none⟩) (hkeep g g3 g4)]
    exact hc j u hu
  · subst ha
    exact ⟨(h2'.lt a.block rfl).1, (h2'.lt a.block rfl).2⟩
  · obtain ⟨_, g, g1, g2, g3, g4, g5⟩ := hall x hx
    refine ⟨g, g1, g2, by omega, fun a ha e9 => ?_, g5.of (hkeep g g3 g4)⟩
    subst ha
    have e8 : (Value.slice (some a) (n + 1) c').ownBlock = some a.block := rfl
    rcases h4 with h4 | h4
    · rw [h4] at e8; exact g4 (by rw [e8, e9])
    · rw [h4] at e8; injection e8 with e8; omega
/-- A unit's lines, its name ahead. -/
def unitW (u : Srv) : Txt := [117, 110, 105, 116, 32] ++ (u.name ++ ([10] ++ linesU u))
def unitsW (l : List Srv) : Txt := l.flatMap unitW
theorem unitsW_succ (l : List Srv) {k : Nat} (hk : k < l.length) : unitsW (l.take (k + 1)) = unitsW (l.take k) ++ unitW l[k] := by
  unfold unitsW
  rw [List.take_succ_eq_append_getElem hk, List.flatMap_append, List.flatMap_cons, List.flatMap_nil, List.append_nil]
theorem textS_eq (s : SysP) : textS s = linesW [117, 115, 101, 114, 32] s.users ++ unitsW s.units ++ [101, 110, 100, 10] := by
  have e : (fun u : Srv => [117, 110, 105, 116, 32] ++ u.name ++ [10] ++ linesU u) = unitW := by
    funext u
    simp [unitW]
  unfold textS unitsW
  rw [e]
  rfl
theorem unitW_lim {u : SV} (hs : SmallU u) (h1 : u.req.length = u.n) (h2 : u.aft.length = u.n2) : (linesU u.srv).length ≤ 2300000000000 ∧ (unitW u.srv).length ≤ 2400000000000 := by
  have a1 := linesW_lim (p := [114, 101, 113, 117, 105, 114, 101, 115, 32]) (by decide) (l := u.req) (by have := hs.n; omega) (fun t h => hs.texts t (List.mem_append.2 (.inl h))) u.req.length
  have a2 := linesW_lim (p := [97, 102, 116, 101, 114, 32]) (by decide) (l := u.aft) (by have := hs.n2; omega) (fun t h => hs.texts t (List.mem_append.2 (.inr h))) u.aft.length
  rw [List.take_length] at a1 a2
  have a3 := hs.start
  have a4 := hs.name
  have e : (linesU u.srv).length = 4 + u.start.length + 1 + (linesW [114, 101, 113, 117, 105, 114, 101, 115, 32] u.req).length + (linesW [97, 102, 116, 101, 114, 32] u.aft).length := by
    rw [linesU_eq]
    simp only [SV.srv, List.length_append, List.length_cons, List.length_nil]
  refine ⟨by omega, ?_⟩
  unfold unitW
  simp only [List.length_append, List.length_cons, List.length_nil]
  have : u.srv.name = u.name := rfl
  rw [this]
  omega
theorem unitsW_lim : ∀ {l : List Srv}, l.length ≤ 24 → (∀ u ∈ l, (unitW u).length ≤ 2400000000000) → (unitsW l).length ≤ l.length * 2400000000000
  | [], _, _ => by simp [unitsW]
  | u :: l, hl, h => by
    have ih := unitsW_lim (l := l) (by simp at hl; omega) (fun v hv => h v (List.mem_cons_of_mem _ hv))
    have hu := h u List.mem_cons_self
    unfold unitsW at ih ⊢
    rw [List.flatMap_cons, List.length_append, List.length_cons, Nat.add_mul]
    omega
theorem units_lim {us : List SV} (hl : us.length ≤ 24) (h : ∀ u ∈ us, (unitW u.srv).length ≤ 2400000000000) (k : Nat) : (unitsW ((us.map SV.srv).take k)).length ≤ 60000000000000 := by
  have h1 : ((us.map SV.srv).take k).length ≤ 24 := by rw [List.length_take, List.length_map]; omega
  have h2 := unitsW_lim h1 (fun u hu => by
    obtain ⟨v, hv, rfl⟩ := List.mem_map.1 (List.mem_of_mem_take hu)
    exact h v hv)
  exact Nat.le_trans h2 (Nat.le_trans (Nat.mul_le_mul_right _ h1) (by decide))
theorem users_lim {l : List Txt} (hl : l.length ≤ 16) (ht : ∀ t ∈ l, t.length ≤ 1048576) (k : Nat) : (linesW [117, 115, 101, 114, 32] (l.take k)).length ≤ 1100000000000 := linesW_lim (by decide) (by omega) ht k
def etcE (x : Ent) : Ent := ⟨[101, 116, 99, 47] ++ x.path, x.kind, x.data⟩
set_option maxRecDepth 100000 in
set_option maxHeartbeats 4000000 in
theorem entries21_any {w : World} {B : Nat} {o : OV} (h : ObsAt w B o) (hB : B ≤ w.heap.size) (hs : SmallO o) (hn2 : o.n2 ≤ 16) (hn3 : o.n3 ≤ 24) :
    Calls Tryz.prog 37 #[.agg (ovArr o)] w (LaidPost w o) := by
  obtain ⟨A, n, c, es, A2, n2, c2, users, A3, n3, c3, us⟩ := o
  obtain ⟨h1, h2, h3⟩ := h
  simp only at h1 h2 h3 hn2 hn3
  obtain ⟨W0, hW0⟩ : ∃ W0, W0 = w.alloc (.cells #[.slice A n c, .slice A2 n2 c2, .slice A3 n3 c3] 26) := ⟨_, rfl⟩
  have hb0 : Below w.heap.size w W0 := by rw [hW0]; exact bel_new _ _
  have hz0 : W0.heap.size = w.heap.size + 1 := by rw [hW0]; simp
  have hG0 : Blk W0 w.heap.size 26 #[.slice A n c, .slice A2 n2 c2, .slice A3 n3 c3] := by rw [hW0]; exact Blk.new _ _ _
  have HW0 := Lib.hid hW0
  have HB0 := Lib.hid hb0
  have HZ0 := Lib.hid hz0
  have HG0 := Lib.hid hG0
  have H1 := Lib.hid h1
  have H2 := Lib.hid h2
  have H3 := Lib.hid h3
  have HS := Lib.hid hs
  have HB := Lib.hid hB
  have hn : n ≤ 1048576 := hs.n
  have HSU := Lib.hid (show ∀ t ∈ users, t.length ≤ 1048576 from hs.users)
  have HSN := Lib.hid (show ∀ u ∈ us, SmallU u from hs.units)
  have HL1 := Lib.hid h1.len
  have HL2 := Lib.hid (show users.length = n2 by have := h2.len; simpa using this)
  have HL3 := Lib.hid h3.len
  have HO0 := Lib.hid (OwnEnts.nil W0 W0.heap.size)
  clear h1 h2 h3 hs hb0 hz0 hG0 hW0 hB
  unfold ovArr
  simp only
  go_enter Tryz.func37, Tryz.ntmps37
  go_wp2_with (fail)
  rw [← HW0.out]
  go_loopw [3, 14] (fun s i wr => ∃ (k : Nat) (A' : Option Addr) (c' : Nat) (es' : List EV), k ≤ n ∧ i = .int .i64 (k : Int) ∧ s = .slice A' k c' ∧ Aside (OwnEnts wr W0.heap.size (.slice A' k c') k es') ∧ Aside (es'.map EV.ent = ((es.map EV.ent).take k).map etcE) ∧ Aside (Below W0.heap.size W0 wr)) (fun _ i _ => n - (intOf i).toNat)
  case atStart => exact ⟨0, none, 0, [], Nat.zero_le _, rfl, rfl, HO0.out, rfl, Below.refl _ _⟩
  case round =>
    obtain ⟨k, A', c', es', hk, rfl, rfl, ho, hmap, hb⟩ := hrel
    have hbw := HB0.out.trans (hb.out.mono HB0.out.size)
    by_cases hlt : k < n
    · obtain ⟨b, off, rfl, hbB, hl, c0, c1, c2', hS⟩ := (H1.out.below (hbw.mono HB.out)).at_ hlt
      have hsm := HS.out.ents _ (List.getElem_mem hl)
      have HM := Lib.hid (show ((es.map EV.ent).take (k + 1)).map etcE = ((es.map EV.ent).take k).map etcE ++ [etcE es[k].ent] by
        rw [← List.map_take, ← List.map_take, List.take_succ_eq_append_getElem hl, List.map_append, List.map_append]; rfl)
      generalize es[k] = e at *
      have hen : e.n ≤ 1000000000 := by have := hS.len; simp at this; omega
      have hkk : k ≤ 1000000000 := by omega
      obtain ⟨w3, g3, c3', A6, c6, w6, S, hb6⟩ := ent_put ho.out hb.out e hS (Nat.le_trans HB.out hbw.size) hkk hen ([101, 116, 99, 47] ++ e.path) (⟨#[101, 116, 99, 47]⟩ ++ ⟨e.path.toArray⟩) (bytes_inj (by simp))
      have x0 := S.blk.cell 0
      have x1 := S.blk.cell 1
      have x2 := S.blk.cell 2
      simp only [List.getElem?_toArray, List.getElem?_cons_zero, List.getElem?_cons_succ] at x0 x1 x2
      have HR3 := Lib.hid S.r3
      have HR6 := Lib.hid S.r6
      have HO6 := Lib.hid S.own
      have HB6 := Lib.hid hb6
      have q1 : ¬ 9223372036854775807 < 4 + e.path.length := by omega
      have HKP := Lib.hid (fun (W' : World) (h9 : Blk W' wr.heap.size 35 #[.string ⟨e.path.toArray⟩, .int .i64 e.kind, .slice e.A e.n e.c]) => show W'.cell? ⟨wr.heap.size, 0, none⟩ = some (.string ⟨e.path.toArray⟩) ∧ W'.cell? ⟨wr.heap.size, 1, none⟩ = some (.int .i64 e.kind) ∧ W'.cell? ⟨wr.heap.size, 2, none⟩ = some (.slice e.A e.n e.c) from ⟨h9.cell 0, h9.cell 1, h9.cell 2⟩)
      have HBK := Lib.hid S.blk
      have HBK6 := Lib.hid S.blk6
      clear S hb6 hS hbw x0 x1 x2
      have hk0 := HKP.out _ (Blk.new wr 35 #[.string ⟨e.path.toArray⟩, .int .i64 e.kind, .slice e.A e.n e.c]).drew
      go_wp2_with (fail)
      go_region_held_law (fun W' => W'.cell? ⟨wr.heap.size, 0, none⟩ = some (.string ⟨e.path.toArray⟩) ∧ W'.cell? ⟨wr.heap.size, 1, none⟩ = some (.int .i64 e.kind) ∧ W'.cell? ⟨wr.heap.size, 2, none⟩ = some (.slice e.A e.n e.c))
        (first
        | exact HKP.out _ HBK6.out
        | exact HKP.out _ (HBK.out.alloc _)
        | exact HKP.out _ HBK.out
        | exact HKP.out _ ((Blk.new wr 35 #[.string ⟨e.path.toArray⟩, .int .i64 e.kind, .slice e.A e.n e.c]).alloc _).drew
        | exact HKP.out _ (Blk.new wr 35 #[.string ⟨e.path.toArray⟩, .int .i64 e.kind, .slice e.A e.n e.c]).drew)
        (first
        | (refine step_append_at (by rfl) _ _ _ (by rfl) HR3.out (by with_reducible rfl) (by rfl) (by rfl) (by rfl) ?_)
        | (refine step_append_at (by rfl) _ _ _ (by rfl) HR6.out (by with_reducible rfl) (by rfl) (by rfl) (by rfl) ?_))
      go_wp2_with (fail)
      exact ⟨⟨k + 1, A6, c6, _, by omega, by go_num, rfl, HO6.out, (show (_ : List Ent) = _ by rw [HM.out, ← hmap.out, List.map_append]; rfl), HB6.out⟩, by simp [intOf]; omega⟩
    · obtain rfl : k = n := by omega
      have HMF := Lib.hid (show es'.map EV.ent = (es.map EV.ent).map etcE by rw [hmap.out, List.take_of_length_le (by rw [List.length_map]; have := HL1.out; omega)])
      have g1 := (HG0.out.below hb.out HG0.out.lt).cell 1
      simp only [List.getElem?_toArray, List.getElem?_cons_zero, List.getElem?_cons_succ] at g1
      have HOF := ho
      have HBF := hb
      clear hmap ho hb hbw
      go_wp2_with (fail)
      go_loopw [6, 35] (fun s i wr' => ∃ (j : Nat) (bb : ByteArray), j ≤ n2 ∧ i = .int .i64 (j : Int) ∧ s = .string bb ∧ Aside (bb.data.toList = linesW [117, 115, 101, 114, 32] (users.take j)) ∧ Aside (OwnEnts wr' W0.heap.size (.slice A' k c') k es') ∧ Aside (Below W0.heap.size W0 wr')) (fun _ i _ => n2 - (intOf i).toNat)
      case atStart => exact ⟨0, _, Nat.zero_le _, rfl, rfl, rfl, HOF.out, HBF.out⟩
      case round =>
        obtain ⟨j, bb, hj, rfl, rfl, hbb, ho, hb⟩ := hrel
        have hbs : bb.size ≤ 1100000000000 := by
          rw [← bsz_list, hbb.out]
          exact users_lim (by have := HL2.out; omega) HSU.out j
        have hbw := HB0.out.trans (hb.out.mono HB0.out.size)
        by_cases hlt : j < n2
        · obtain ⟨b, off, rfl, hbB, hl, c0⟩ := txtAt21 (H2.out.below (hbw.mono HB.out)) hlt
          have ht := HSU.out _ (List.getElem_mem hl)
          have HT := Lib.hid (linesW_succ [117, 115, 101, 114, 32] users hl)
          generalize users[j] = t at *
          have q1 : ¬ 9223372036854775807 < 5 + t.length := by omega
          have q2 : ¬ 9223372036854775807 < 5 + t.length + 1 := by omega
          have q3 : ¬ 9223372036854775807 < bb.size + (5 + t.length + 1) := by omega
          clear hbw
          go_wp2_with (fail)
          exact ⟨⟨j + 1, _, by omega, by go_num, rfl, (show (_ : Txt) = _ by rw [HT.out, ← hbb.out]; simp), ho.out, hb.out⟩, by simp [intOf]; omega⟩
        · obtain rfl : j = n2 := by omega
          have HBB := Lib.hid (show bb.data.toList = linesW [117, 115, 101, 114, 32] users by rw [hbb.out, List.take_of_length_le (by have := HL2.out; omega)])
          have g2 := (HG0.out.below hb.out HG0.out.lt).cell 2
          simp only [List.getElem?_toArray, List.getElem?_cons_zero, List.getElem?_cons_succ] at g2
          have HBS := Lib.hid hbs
          clear hbb hbw g1 HOF HBF hbs
          go_wp2_with (fail)
          go_loopw [6, 48] (fun s i wr3 => ∃ (m : Nat) (b3 : ByteArray), m ≤ n3 ∧ i = .int .i64 (m : Int) ∧ s = .string b3 ∧ Aside (b3.data.toList = bb.data.toList ++ unitsW ((us.map SV.srv).take m)) ∧ Aside (OwnEnts wr3 W0.heap.size (.slice A' k c') k es') ∧ Aside (Below W0.heap.size W0 wr3)) (fun _ i _ => n3 - (intOf i).toNat)
          case atStart => exact ⟨0, _, Nat.zero_le _, rfl, rfl, (show (_ : Txt) = _ by simp [unitsW]), ho.out, hb.out⟩
          case round =>
            clear ho hb g2
            obtain ⟨m, b3, hm, rfl, rfl, hbb, ho, hb⟩ := hrel
            have hb3 : b3.size ≤ 61100000000000 := by
              have h1 := congrArg List.length hbb.out
              rw [bsz_list, List.length_append, bsz_list] at h1
              have h2 := HBS.out
              have h3 := units_lim (us := us) (by have := HL3.out; omega) (fun u hu => (unitW_lim (HSN.out u hu) (by have := (H3.out.req u hu).len; simpa using this) (by have := (H3.out.aft u hu).len; simpa using this)).2) m
              omega
            have hbw := HB0.out.trans (hb.out.mono HB0.out.size)
            by_cases hlt : m < n3
            · obtain ⟨b, off, rfl, hbB, hl, c0, c1, c2', c3', hS1, hS2⟩ := (H3.out.below (hbw.mono HB.out)).at_ hlt
              have hsu := HSN.out _ (List.getElem_mem hl)
              have HT := Lib.hid (show unitsW ((us.map SV.srv).take (m + 1)) = unitsW ((us.map SV.srv).take m) ++ unitW us[m].srv by rw [unitsW_succ _ (by rw [List.length_map]; exact hl), List.getElem_map])
              generalize us[m] = u at *
              obtain ⟨ll1, ll2⟩ := unitW_lim hsu (by have := hS1.len; simpa using this) (by have := hS2.len; simpa using this)
              have hnm := hsu.name
              have hun := unit21_any (w := (wr.alloc (.cells (svArr u) 59)).drew) u ((hS1.below ((bel_new wr (.cells (svArr u) 59)).mono (Nat.le_trans HB.out hbw.size))).drew) ((hS2.below ((bel_new wr (.cells (svArr u) 59)).mono (Nat.le_trans HB.out hbw.size))).drew) (by have := Nat.le_trans HB.out hbw.size; show B ≤ (wr.alloc _).heap.size; simp; omega) hsu
              have HBW1 := Lib.hid (show Below wr.heap.size wr (wr.alloc (.cells (svArr u) 59)).drew from (bel_new wr (.cells (svArr u) 59)).drew)
              have HGU := Lib.hid (show Blk (wr.alloc (.cells (svArr u) 59)).drew wr.heap.size 59 (svArr u) from (Blk.new _ _ _).drew)
              have HKP := Lib.hid (fun (W' : World) (h9 : Blk W' wr.heap.size 59 (svArr u)) => show W'.cell? ⟨wr.heap.size, 0, none⟩ = some (.string ⟨u.name.toArray⟩) ∧ W'.cell? ⟨wr.heap.size, 1, none⟩ = some (.string ⟨u.start.toArray⟩) ∧ W'.cell? ⟨wr.heap.size, 2, none⟩ = some (.slice u.A u.n u.c) ∧ W'.cell? ⟨wr.heap.size, 3, none⟩ = some (.slice u.A2 u.n2 u.c2) from ⟨h9.cell 0, h9.cell 1, h9.cell 2, h9.cell 3⟩)
              obtain ⟨k0, k1, k2, k3⟩ := HKP.out _ HGU.out
              have HZ1 := Lib.hid (show wr.heap.size < (wr.alloc (.cells (svArr u) 59)).drew.heap.size by simp)
              unfold unitW at HT
              generalize linesU u.srv = lu at *
              have HUW := Lib.hid (show u.srv.name = u.name from rfl)
              rw [HUW.out] at HT
              unfold svArr at hun HGU HBW1 HZ1 HKP
              have q1 : ¬ 9223372036854775807 < 5 + u.name.length := by omega
              have q2 : ¬ 9223372036854775807 < 5 + u.name.length + 1 := by omega
              have q3 : ¬ 9223372036854775807 < 5 + u.name.length + 1 + lu.length := by omega
              have q4 : ¬ 9223372036854775807 < b3.size + (5 + u.name.length + 1 + lu.length) := by omega
              clear hbw hS1 hS2 hsu ll1 ll2 hnm
              go_wp2_with (fail)
              go_region_law (go_simp; go_at_call 73; refine hun.mono ?_; clear hun; rintro e2 w2 ⟨rfl, hb2⟩; obtain ⟨y0, y1, y2, y3⟩ := HKP.out _ (HGU.out.below hb2 HZ1.out); have HB2 := Lib.hid hb2; clear hb2)
              all_goals go_wp2_with (fail)
              all_goals have hfin : Below W0.heap.size wr w2 := (HBW1.out.trans (HB2.out.mono HBW1.out.size)).mono hb.out.size
              all_goals exact ⟨⟨m + 1, _, by omega, by go_num, rfl, (show (_ : Txt) = _ by rw [HT.out, ← List.append_assoc, ← hbb.out]; simp), ho.out.below (HBW1.out.trans (HB2.out.mono HBW1.out.size)), hb.out.trans hfin⟩, by simp [intOf]; omega⟩
            · obtain rfl : m = n3 := by omega
              have HTX := Lib.hid (show (b3 ++ (⟨#[101, 110, 100, 10]⟩ : ByteArray)).data.toList = textS ⟨es.map EV.ent, users, us.map SV.srv⟩ by
                rw [textS_eq]
                show _ = linesW [117, 115, 101, 114, 32] users ++ unitsW (us.map SV.srv) ++ [101, 110, 100, 10]
                rw [← HBB.out, ← List.take_of_length_le (l := us.map SV.srv) (i := m) (by rw [List.length_map]; have := HL3.out; omega), ← hbb.out]
                simp)
              have q1 : ¬ 9223372036854775807 < b3.size + 4 := by omega
              have hts : (b3 ++ (⟨#[101, 110, 100, 10]⟩ : ByteArray)).size = b3.size + 4 := by rw [ByteArray.size_append]; rfl
              obtain ⟨cap, w2, hcv, hb2, hz2, hS2, hBB⟩ := text_bytes wr (b3 ++ (⟨#[101, 110, 100, 10]⟩ : ByteArray)) (by rw [hts]; unfold maxLen; omega)
              rw [HTX.out] at hS2
              rw [hts] at hcv hS2 hBB
              have ho2 := ho.out.below hb2
              have hlt0 : W0.heap.size ≤ wr.heap.size := hb.out.size
              obtain ⟨A6, c6, w6, r6, o6, g6⟩ := ents_last ho2 ⟨[115, 121, 115, 116, 101, 109], 1, textS ⟨es.map EV.ent, users, us.map SV.srv⟩, some ⟨wr.heap.size, 0, none⟩, b3.size + 4, cap⟩ (hS2.more (by omega)) (g0 := wr.heap.size) ⟨rfl, hlt0, by omega, fun e9 => by have := (ho.out.own.lt _ e9).2; omega⟩ hBB (fun x hx e9 => by
                obtain ⟨g, g1, g2, g3, g4⟩ := ho.out.data x hx
                rw [g1] at e9
                have := (Addr.mk.inj (Option.some.inj e9)).1
                omega) (by omega) (by omega)
              have HO6 := Lib.hid o6
              have HB6 := Lib.hid (grown_below (((hb.out.trans (hb2.mono hlt0))).alloc (by omega) _) (ho2.own.alloc _) (by simp; omega) g6)
              have HR6 := Lib.hid r6
              have HNE := Lib.hid (show ∀ x ∈ es', x.A ≠ some ⟨wr.heap.size, 0, none⟩ from fun x hx e9 => by
                obtain ⟨g, g1, g2, g3, g4⟩ := ho.out.data x hx
                rw [g1] at e9
                have := (Addr.mk.inj (Option.some.inj e9)).1
                omega)
              clear hts hb2 hz2 hS2 hBB ho2 o6 g6 r6 hbw hbb ho hb
              go_wp2_with (at_builtin; refine wpList_append_run rfl _ _ _ rfl rfl rfl HR6.out ?_; clear HR6)
              go_ret
              have hz := HB0.out.size
              refine ⟨A6, k + 1, c6, _, es', _, rfl, rfl, ?_, ⟨HO6.out.ents, fun a ha => ?_, fun e he => ?_⟩, HNE.out, HB0.out.trans (HB6.out.mono hz)⟩
              · rw [List.map_append, HMF.out]
                rfl
              · have := HO6.out.row a ha
                omega
              · obtain ⟨g, d1, d2, d3, d4, d5⟩ := HO6.out.data e he
                exact ⟨g, d1, by omega, d3, d4, d5⟩
end Go.Proofs.YtibndaianhlcaaaGreatDoor
namespace Go.Proofs.YtibndaianhlcaaaGreatDoor
open Go.RowKit Go.Sort Go.Shelf
set_option linter.unusedVariables false
set_option linter.unusedSimpArgs false

def hasAt (l : List Bool) (r : Int) : Prop := decide (0 ≤ r) = l.any id

set_option maxRecDepth 100000 in
set_option maxHeartbeats 1000000 in
theorem idxR_any {w : World} {B : Nat} {A : Option Addr} {n c : Nat} {es : List SV} (h : UnitsAt w B A n c es) (hB : B ≤ w.heap.size) (bx : Nat) (p : SV → Bool) (hy : ∀ x ∈ es, ∀ wr, Below w.heap.size w wr → Calls Tryz.prog 41 #[.agg (svArr x), .pointer (some ⟨bx, 0, none⟩)] wr fun e w' => e = .returned (.bool (p x)) ∧ Below wr.heap.size wr w') :
    Calls Tryz.prog 82 #[.slice A n c, .func (.func 41) #[] #[.pointer (some ⟨bx, 0, none⟩)]] w fun e w' => ∃ r : Int, e = .returned (.int .i64 r) ∧ decide (0 ≤ r) = es.any p ∧ Below w.heap.size w w' := by
  have hn62 : n ≤ 9223372036854775807 := by have := h.slc.le; have := h.slc.cmax; unfold maxLen at this; omega
  have hlen : es.length = n := h.len
  have H := Lib.hid h
  have HL := Lib.hid hlen
  have HY := Lib.hid hy
  clear h hlen hy
  go_enter Tryz.func82, Tryz.ntmps82
  go_wp2_with (fail)
  go_loopw [8] (fun i wr => ∃ k : Nat, k ≤ n ∧ i = .int .i64 (k : Int) ∧ Aside ((es.take k).any p = false) ∧ Aside (Below w.heap.size w wr)) (fun i _ => n - (intOf i).toNat)
  case atStart => exact ⟨0, Nat.zero_le _, rfl, rfl, Below.refl _ _⟩
  case round =>
    obtain ⟨k, hk, rfl, hno, hb⟩ := hrel
    by_cases hlt : k < n
    · have hk1 : k + 1 ≤ n := hlt
      obtain ⟨b, off, rfl, hbB, hl, c0, c1, c2, c3, _, _⟩ := (H.out.below (hb.out.mono hB)).at_ hlt
      have hp := HY.out es[k] (List.getElem_mem hl) wr hb.out
      cases hhit : p es[k] with
      | true =>
        have HA := Lib.hid (show es.any p = true from List.any_eq_true.2 ⟨es[k], List.getElem_mem hl, hhit⟩)
        rw [hhit] at hp
        clear hhit
        unfold svArr at hp
        generalize es[k] = x at *
        obtain ⟨un, ust, ur, uA, un1, uc1, ua, uA2, un2, uc2⟩ := x
        simp only at hp c0 c1 c2 c3
        go_wp2_with (go_at_call 41; refine hp.mono ?_; clear hp; rintro e2 w2 ⟨rfl, hb2⟩)
        go_ret
        exact ⟨_, rfl, by rw [HA.out]; exact decide_eq_true (by omega), hb.out.trans (hb2.mono hb.out.size)⟩
      | false =>
        have HN := Lib.hid (show (es.take (k + 1)).any p = false by rw [List.take_succ_eq_append_getElem hl, List.any_append, hno.out, List.any_cons, hhit]; rfl)
        rw [hhit] at hp
        clear hhit
        unfold svArr at hp
        generalize es[k] = x at *
        obtain ⟨un, ust, ur, uA, un1, uc1, ua, uA2, un2, uc2⟩ := x
        simp only at hp c0 c1 c2 c3
        go_wp2_with (go_at_call 41; refine hp.mono ?_; clear hp; rintro e2 w2 ⟨rfl, hb2⟩)
        exact ⟨⟨k + 1, hk1, by go_num, HN.out, hb.out.trans (hb2.mono hb.out.size)⟩, by clear HN hb2; simp [intOf]; omega⟩
    · have HF := Lib.hid (show es.any p = false by rw [← hno.out, List.take_of_length_le (by have := HL.out; omega)])
      go_wp2_with (fail)
      go_ret
      exact ⟨_, rfl, by rw [HF.out]; rfl, hb.out⟩
theorem contR_any {w : World} {B : Nat} {A : Option Addr} {n c : Nat} {es : List SV} (h : UnitsAt w B A n c es) (hB : B ≤ w.heap.size) (bx : Nat) (p : SV → Bool) (hy : ∀ x ∈ es, ∀ wr, Below w.heap.size w wr → Calls Tryz.prog 41 #[.agg (svArr x), .pointer (some ⟨bx, 0, none⟩)] wr fun e w' => e = .returned (.bool (p x)) ∧ Below wr.heap.size wr w') :
    Calls Tryz.prog 40 #[.slice A n c, .func (.func 41) #[] #[.pointer (some ⟨bx, 0, none⟩)]] w fun e w' => e = .returned (.bool (es.any p)) ∧ Below w.heap.size w w' := by
  have hi := idxR_any h hB bx p hy
  clear h hy
  generalize es.any p = v at *
  go_enter Tryz.func40, Tryz.ntmps40
  go_wp2_with (go_at_call 82; refine hi.mono ?_; clear hi; rintro e2 w2 ⟨r, rfl, hr, hb2⟩)
  go_ret
  exact ⟨by rw [← hr]; rfl, hb2⟩

set_option maxRecDepth 100000 in
set_option maxHeartbeats 1000000 in
theorem idxP_any {w : World} {B : Nat} {A : Option Addr} {n c : Nat} {es : List EV} (h : EntsAt w B A n c es) (hB : B ≤ w.heap.size) (bx : Nat) (p : EV → Bool) (hy : ∀ x ∈ es, ∀ wr, Below w.heap.size w wr → Calls Tryz.prog 61 #[.agg (evArr x), .pointer (some ⟨bx, 0, none⟩)] wr fun e w' => e = .returned (.bool (p x)) ∧ Below wr.heap.size wr w') :
    Calls Tryz.prog 95 #[.slice A n c, .func (.func 61) #[] #[.pointer (some ⟨bx, 0, none⟩)]] w fun e w' => ∃ r : Int, e = .returned (.int .i64 r) ∧ decide (0 ≤ r) = es.any p ∧ Below w.heap.size w w' := by
  have hn62 : n ≤ 9223372036854775807 := by have := h.slc.le; have := h.slc.cmax; unfold maxLen at this; omega
  have hlen : es.length = n := h.len
  have H := Lib.hid h
  have HL := Lib.hid hlen
  have HY := Lib.hid hy
  clear h hlen hy
  go_enter Tryz.func95, Tryz.ntmps95
  go_wp2_with (fail)
  go_loopw [8] (fun i wr => ∃ k : Nat, k ≤ n ∧ i = .int .i64 (k : Int) ∧ Aside ((es.take k).any p = false) ∧ Aside (Below w.heap.size w wr)) (fun i _ => n - (intOf i).toNat)
  case atStart => exact ⟨0, Nat.zero_le _, rfl, rfl, Below.refl _ _⟩
  case round =>
    obtain ⟨k, hk, rfl, hno, hb⟩ := hrel
    by_cases hlt : k < n
    · have hk1 : k + 1 ≤ n := hlt
      obtain ⟨b, off, rfl, hbB, hl, c0, c1, c2, _⟩ := (H.out.below (hb.out.mono hB)).at_ hlt
      have hp := HY.out es[k] (List.getElem_mem hl) wr hb.out
      cases hhit : p es[k] with
      | true =>
        have HA := Lib.hid (show es.any p = true from List.any_eq_true.2 ⟨es[k], List.getElem_mem hl, hhit⟩)
        rw [hhit] at hp
        clear hhit
        unfold evArr at hp
        generalize es[k] = x at *
        obtain ⟨xp, xk, xd, xA, xn, xc⟩ := x
        simp only at hp c0 c1 c2
        go_wp2_with (go_at_call 61; refine hp.mono ?_; clear hp; rintro e2 w2 ⟨rfl, hb2⟩)
        go_ret
        exact ⟨_, rfl, by rw [HA.out]; exact decide_eq_true (by omega), hb.out.trans (hb2.mono hb.out.size)⟩
      | false =>
        have HN := Lib.hid (show (es.take (k + 1)).any p = false by rw [List.take_succ_eq_append_getElem hl, List.any_append, hno.out, List.any_cons, hhit]; rfl)
        rw [hhit] at hp
        clear hhit
        unfold evArr at hp
        generalize es[k] = x at *
        obtain ⟨xp, xk, xd, xA, xn, xc⟩ := x
        simp only at hp c0 c1 c2
        go_wp2_with (go_at_call 61; refine hp.mono ?_; clear hp; rintro e2 w2 ⟨rfl, hb2⟩)
        exact ⟨⟨k + 1, hk1, by go_num, HN.out, hb.out.trans (hb2.mono hb.out.size)⟩, by clear HN hb2; simp [intOf]; omega⟩
    · have HF := Lib.hid (show es.any p = false by rw [← hno.out, List.take_of_length_le (by have := HL.out; omega)])
      go_wp2_with (fail)
      go_ret
      exact ⟨_, rfl, by rw [HF.out]; rfl, hb.out⟩
theorem contP_any {w : World} {B : Nat} {A : Option Addr} {n c : Nat} {es : List EV} (h : EntsAt w B A n c es) (hB : B ≤ w.heap.size) (bx : Nat) (p : EV → Bool) (hy : ∀ x ∈ es, ∀ wr, Below w.heap.size w wr → Calls Tryz.prog 61 #[.agg (evArr x), .pointer (some ⟨bx, 0, none⟩)] wr fun e w' => e = .returned (.bool (p x)) ∧ Below wr.heap.size wr w') :
    Calls Tryz.prog 60 #[.slice A n c, .func (.func 61) #[] #[.pointer (some ⟨bx, 0, none⟩)]] w fun e w' => e = .returned (.bool (es.any p)) ∧ Below w.heap.size w w' := by
  have hi := idxP_any h hB bx p hy
  clear h hy
  generalize es.any p = v at *
  go_enter Tryz.func60, Tryz.ntmps60
  go_wp2_with (go_at_call 95; refine hi.mono ?_; clear hi; rintro e2 w2 ⟨r, rfl, hr, hb2⟩)
  go_ret
  exact ⟨by rw [← hr]; rfl, hb2⟩

set_option maxRecDepth 100000 in
set_option maxHeartbeats 1000000 in
theorem idxQ_any {w : World} {B : Nat} {A : Option Addr} {n c : Nat} {es : List EV} (h : EntsAt w B A n c es) (hB : B ≤ w.heap.size) (bx : Nat) (p : EV → Bool) (hy : ∀ x ∈ es, ∀ wr, Below w.heap.size w wr → Calls Tryz.prog 63 #[.agg (evArr x), .pointer (some ⟨bx, 0, none⟩)] wr fun e w' => e = .returned (.bool (p x)) ∧ Below wr.heap.size wr w') :
    Calls Tryz.prog 95 #[.slice A n c, .func (.func 63) #[] #[.pointer (some ⟨bx, 0, none⟩)]] w fun e w' => ∃ r : Int, e = .returned (.int .i64 r) ∧ decide (0 ≤ r) = es.any p ∧ Below w.heap.size w w' := by
  have hn62 : n ≤ 9223372036854775807 := by have := h.slc.le; have := h.slc.cmax; unfold maxLen at this; omega
  have hlen : es.length = n := h.len
  have H := Lib.hid h
  have HL := Lib.hid hlen
  have HY := Lib.hid hy
  clear h hlen hy
  go_enter Tryz.func95, Tryz.ntmps95
  go_wp2_with (fail)
  go_loopw [8] (fun i wr => ∃ k : Nat, k ≤ n ∧ i = .int .i64 (k : Int) ∧ Aside ((es.take k).any p = false) ∧ Aside (Below w.heap.size w wr)) (fun i _ => n - (intOf i).toNat)
  case atStart => exact ⟨0, Nat.zero_le _, rfl, rfl, Below.refl _ _⟩
  case round =>
    obtain ⟨k, hk, rfl, hno, hb⟩ := hrel
    by_cases hlt : k < n
    · have hk1 : k + 1 ≤ n := hlt
      obtain ⟨b, off, rfl, hbB, hl, c0, c1, c2, _⟩ := (H.out.below (hb.out.mono hB)).at_ hlt
      have hp := HY.out es[k] (List.getElem_mem hl) wr hb.out
      cases hhit : p es[k] with
      | true =>
        have HA := Lib.hid (show es.any p = true from List.any_eq_true.2 ⟨es[k], List.getElem_mem hl, hhit⟩)
        rw [hhit] at hp
        clear hhit
        unfold evArr at hp
        generalize es[k] = x at *
        obtain ⟨xp, xk, xd, xA, xn, xc⟩ := x
        simp only at hp c0 c1 c2
        go_wp2_with (go_at_call 63; refine hp.mono ?_; clear hp; rintro e2 w2 ⟨rfl, hb2⟩)
        go_ret
        exact ⟨_, rfl, by rw [HA.out]; exact decide_eq_true (by omega), hb.out.trans (hb2.mono hb.out.size)⟩
      | false =>
        have HN := Lib.hid (show (es.take (k + 1)).any p = false by rw [List.take_succ_eq_append_getElem hl, List.any_append, hno.out, List.any_cons, hhit]; rfl)
        rw [hhit] at hp
        clear hhit
        unfold evArr at hp
        generalize es[k] = x at *
        obtain ⟨xp, xk, xd, xA, xn, xc⟩ := x
        simp only at hp c0 c1 c2
        go_wp2_with (go_at_call 63; refine hp.mono ?_; clear hp; rintro e2 w2 ⟨rfl, hb2⟩)
        exact ⟨⟨k + 1, hk1, by go_num, HN.out, hb.out.trans (hb2.mono hb.out.size)⟩, by clear HN hb2; simp [intOf]; omega⟩
    · have HF := Lib.hid (show es.any p = false by rw [← hno.out, List.take_of_length_le (by have := HL.out; omega)])
      go_wp2_with (fail)
      go_ret
      exact ⟨_, rfl, by rw [HF.out]; rfl, hb.out⟩
theorem contQ_any {w : World} {B : Nat} {A : Option Addr} {n c : Nat} {es : List EV} (h : EntsAt w B A n c es) (hB : B ≤ w.heap.size) (bx : Nat) (p : EV → Bool) (hy : ∀ x ∈ es, ∀ wr, Below w.heap.size w wr → Calls Tryz.prog 63 #[.agg (evArr x), .pointer (some ⟨bx, 0, none⟩)] wr fun e w' => e = .returned (.bool (p x)) ∧ Below wr.heap.size wr w') :
    Calls Tryz.prog 60 #[.slice A n c, .func (.func 63) #[] #[.pointer (some ⟨bx, 0, none⟩)]] w fun e w' => e = .returned (.bool (es.any p)) ∧ Below w.heap.size w w' := by
  have hi := idxQ_any h hB bx p hy
  clear h hy
  generalize es.any p = v at *
  go_enter Tryz.func60, Tryz.ntmps60
  go_wp2_with (go_at_call 95; refine hi.mono ?_; clear hi; rintro e2 w2 ⟨r, rfl, hr, hb2⟩)
  go_ret
  exact ⟨by rw [← hr]; rfl, hb2⟩
theorem idxT_any {w : World} {B : Nat} {A : Option Addr} {n c : Nat} {l : List Txt} (h : Slc w B 1 A n c (l.map encStr)) (t : Txt) :
    Calls Tryz.prog 96 #[.slice A n c, .string ⟨t.toArray⟩] w fun e w' => ∃ r : Int, e = .returned (.int .i64 r) ∧ decide (0 ≤ r) = decide (t ∈ l) ∧ Below w.heap.size w w' := by
  have hn62 : n ≤ 9223372036854775807 := by have := h.le; have := h.cmax; unfold maxLen at this; omega
  have hlen : l.length = n := by have := h.len; simpa using this
  have H := Lib.hid h
  have HL := Lib.hid hlen
  have t1 : (ByteArray.mk t.toArray).toList = t := Go.ByteArray.toList_eq _
  clear h hlen
  go_enter Tryz.func96, Tryz.ntmps96
  go_wp2_with (fail)
  go_loopw [8] (fun i wr => ∃ k : Nat, k ≤ n ∧ i = .int .i64 (k : Int) ∧ Aside (t ∉ l.take k) ∧ Aside (∃ q, wr = w.drewN q)) (fun i _ => n - (intOf i).toNat)
  case atStart => exact ⟨0, Nat.zero_le _, rfl, (show t ∉ l.take 0 by simp), 0, rfl⟩
  case round =>
    obtain ⟨k, hk, rfl, hno, hb⟩ := hrel
    have hbw : ∀ B, Below B w wr := fun B => by obtain ⟨q0, hq0⟩ := hb.out; rw [hq0]; exact ⟨rfl, rfl, rfl, Nat.le_refl _, fun _ _ => rfl⟩
    by_cases hlt : k < n
    · obtain ⟨b, off, rfl, _, hl, c0⟩ := txtAt21 (H.out.below (hbw _)) hlt
      have HBW := Lib.hid (hbw w.heap.size)
      have HMEM := Lib.hid (show l[k] ∈ l from List.getElem_mem hl)
      have HTK := Lib.hid (List.take_succ_eq_append_getElem hl)
      generalize l[k] = x at *
      have t2 : (ByteArray.mk x.toArray).toList = x := Go.ByteArray.toList_eq _
      clear hbw
      cases h1 : (t == x) with
      | true =>
        have HX := Lib.hid (show t ∈ l by rw [show t = x by simpa using h1]; exact HMEM.out)
        go_wp2_with (fail)
        go_ret
        exact ⟨_, rfl, by rw [decide_eq_true HX.out]; exact decide_eq_true (by omega), HBW.out⟩
      | false =>
        have HX := Lib.hid (show t ∉ l.take (k + 1) by
          rw [HTK.out, List.mem_append, List.mem_singleton]
          rintro (h | h)
          · exact hno.out h
          · rw [h] at h1; simp at h1)
        have HD := Lib.hid hb.out
        go_wp2_with (fail)
        exact ⟨⟨k + 1, by omega, by go_num, HX.out, HD.out⟩, by simp [intOf]; omega⟩
    · have HF := Lib.hid (show t ∉ l by rw [← List.take_of_length_le (l := l) (i := k) (by have := HL.out; omega)]; exact hno.out)
      have HBW := Lib.hid (hbw w.heap.size)
      clear hbw
      go_wp2_with (fail)
      go_ret
      exact ⟨_, rfl, by rw [decide_eq_false HF.out]; rfl, HBW.out⟩
theorem contT_any {w : World} {B : Nat} {A : Option Addr} {n c : Nat} {l : List Txt} (h : Slc w B 1 A n c (l.map encStr)) (t : Txt) :
    Calls Tryz.prog 62 #[.slice A n c, .string ⟨t.toArray⟩] w fun e w' => e = .returned (.bool (decide (t ∈ l))) ∧ Below w.heap.size w w' := by
  have hi := idxT_any h t
  clear h
  generalize decide (t ∈ l) = v at *
  go_enter Tryz.func62, Tryz.ntmps62
  go_wp2_with (go_at_call 96; refine hi.mono ?_; clear hi; rintro e2 w2 ⟨r, rfl, hr, hb2⟩)
  go_ret
  exact ⟨by rw [← hr]; rfl, hb2⟩
/-- The closures. -/
theorem predR_any (u : SV) (name : Txt) (bn : Nat) (w : World) (hbn : w.cell? ⟨bn, 0, none⟩ = some (.string ⟨name.toArray⟩)) :
    Calls Tryz.prog 41 #[.agg (svArr u), .pointer (some ⟨bn, 0, none⟩)] w fun e w' => e = .returned (.bool (decide (u.name = name))) ∧ Below w.heap.size w w' := by
  have hlt : bn < w.heap.size := World.block_lt_of_cell? _ _ hbn
  have hb := bel_new w (.cells (svArr u) 59)
  have t2 : (ByteArray.mk name.toArray).toList = name := Go.ByteArray.toList_eq _
  unfold svArr at hb ⊢
  obtain ⟨un, us, ur, uA, un1, uc1, ua, uA2, un2, uc2⟩ := u
  have t1 : (ByteArray.mk un.toArray).toList = un := Go.ByteArray.toList_eq _
  simp only at hb ⊢
  cases h : (un == name) with
  | true =>
    have H := Lib.hid (show un = name by simpa using h)
    go_enter Tryz.func41, Tryz.ntmps41
    go_wp2
    go_ret
    exact ⟨by rw [decide_eq_true H.out]; rfl, hb⟩
  | false =>
    have H := Lib.hid (show ¬ un = name by simpa using h)
    go_enter Tryz.func41, Tryz.ntmps41
    go_wp2
    go_ret
    exact ⟨by rw [decide_eq_false H.out]; rfl, hb⟩
theorem predP_any (x : EV) (name : Txt) (bn : Nat) (w : World) (hbn : w.cell? ⟨bn, 0, none⟩ = some (.string ⟨name.toArray⟩)) :
    Calls Tryz.prog 61 #[.agg (evArr x), .pointer (some ⟨bn, 0, none⟩)] w fun e w' => e = .returned (.bool (decide (name = x.path))) ∧ Below w.heap.size w w' := by
  have hlt : bn < w.heap.size := World.block_lt_of_cell? _ _ hbn
  have hb := bel_new w (.cells (evArr x) 35)
  have t2 : (ByteArray.mk name.toArray).toList = name := Go.ByteArray.toList_eq _
  unfold evArr at hb ⊢
  obtain ⟨xp, xk, xd, xA, xn, xc⟩ := x
  have t1 : (ByteArray.mk xp.toArray).toList = xp := Go.ByteArray.toList_eq _
  simp only at hb ⊢
  cases h : (name == xp) with
  | true =>
    have H := Lib.hid (show name = xp by simpa using h)
    go_enter Tryz.func61, Tryz.ntmps61
    go_wp2
    go_ret
    exact ⟨by rw [decide_eq_true H.out]; rfl, hb⟩
  | false =>
    have H := Lib.hid (show ¬ name = xp by simpa using h)
    go_enter Tryz.func61, Tryz.ntmps61
    go_wp2
    go_ret
    exact ⟨by rw [decide_eq_false H.out]; rfl, hb⟩
end Go.Proofs.YtibndaianhlcaaaGreatDoor
