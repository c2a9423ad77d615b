/- Words for memory and small lemmas that this seat's walks share. Plain facts on sums and hexadecimal texts: no program in sight. The walks of package sum. The walk of sum.Parse. -/
import Derived.Test.YtibndaianhlcaaaGreatDoorRows
import Derived.WalkKit
import Derived.ProofKit
import Derived.OpenShut
import Derived.WalkSpells
import Derived.WalkLawsBesides
import Derived.Lib.Hide
import Derived.IntWalk
import Derived.Deep.Draws
import Derived.Maps.AppendAt
import Derived.Deep.AppendLies
import Derived.RegionTactic
import Derived.OwnWalk
import Derived.Deep.Cut
import Derived.Deep.CutBlock
import Derived.Deep.DeepCutAuto
import Derived.Deep.QuietTactic
import Derived.BigQuiet
import Derived.BigRegion
import Derived.Deep.RegionLaw
import Derived.Laws.BitsAllLaws
import Derived.Laws.Wrap64
namespace Go.Proofs.YtibndaianhlcaaaGreatDoor
open Go.RowKit

/-- The slice value '.slice A n c' holds the cells xs, 'sz' cells an element; its cells lie below block B. -/
structure Slc (w : World) (B sz : Nat) (A : Option Addr) (n c : Nat) (xs : List Value) : Prop where
  len : xs.length = n * sz
  le : n ≤ c
  cmax : c ≤ maxLen
  at_ : 0 < n → ∃ b off, A = some ⟨b, off, none⟩ ∧ b < B ∧ ∀ j u, xs[j]? = some u → w.cell? ⟨b, off + j, none⟩ = some u

theorem addr_of_add (b off j : Nat) : (⟨b, off, none⟩ : Addr).add j = ⟨b, off + j, none⟩ := by unfold Addr.add; split <;> simp_all

def bv (c : UInt8) : Value := .int .u8 (c.toNat : Int)

theorem Slc.byte {w : World} {B : Nat} {A : Option Addr} {n c : Nat} {l : List UInt8} (h : Slc w B 1 A n c (l.map bv)) {k : Nat} (hk : k < n) :
    ∃ b off, A = some ⟨b, off, none⟩ ∧ b < B ∧ ∃ hl : k < l.length, w.cell? ⟨b, off + k, none⟩ = some (.int .u8 (l[k].toNat : Int)) := by
  obtain ⟨b, off, e, hb, hc⟩ := h.at_ (by omega)
  have hl : k < l.length := by have := h.len; simp at this; omega
  exact ⟨b, off, e, hb, hl, hc k _ (by simp [bv, List.getElem?_map, List.getElem?_eq_getElem hl])⟩

theorem Slc.keep {w w' : World} {B sz : Nat} {A : Option Addr} {n c : Nat} {xs : List Value} (h : Slc w B sz A n c xs) (hk : ∀ p : Addr, p.block < B → w'.cell? p = w.cell? p) : Slc w' B sz A n c xs :=
  ⟨h.len, h.le, h.cmax, fun hn => by
    obtain ⟨b, off, e, hb, hc⟩ := h.at_ hn
    exact ⟨b, off, e, hb, fun j u hu => (hk ⟨b, off + j, none⟩ hb).trans (hc j u hu)⟩⟩

theorem Slc.below {w w' : World} {B sz : Nat} {A : Option Addr} {n c : Nat} {xs : List Value} (h : Slc w B sz A n c xs) (hb : Below B w w') : Slc w' B sz A n c xs :=
  h.keep fun _ hp => hb.cell hp
theorem Slc.more {w : World} {B B' sz : Nat} {A : Option Addr} {n c : Nat} {xs : List Value} (h : Slc w B sz A n c xs) (hB : B ≤ B') : Slc w B' sz A n c xs :=
  ⟨h.len, h.le, h.cmax, fun hn => by
    obtain ⟨b, off, e, hb, hc⟩ := h.at_ hn
    exact ⟨b, off, e, by omega, hc⟩⟩

/-- Block g is just the cells cs of element type t, none frozen. -/
def Blk (w : World) (g : Nat) (t : TypeId) (cs : Array Value) : Prop := w.heap[g]? = some (.cells cs t (0, 0))

section
variable {w w' : World} {g : Nat} {t : TypeId} {cs : Array Value}
theorem Blk.lt (h : Blk w g t cs) : g < w.heap.size := by
  rcases Nat.lt_or_ge g w.heap.size with hlt | hge
  · exact hlt
  · unfold Blk at h; rw [Array.getElem?_eq_none hge] at h; cases h
theorem Blk.cell (h : Blk w g t cs) (i : Nat) : w.cell? ⟨g, i, none⟩ = cs[i]? := cell_of_row w g i cs t (0, 0) h
theorem Blk.frozen (h : Blk w g t cs) (i : Nat) : w.frozen? ⟨g, i, none⟩ = false := by
  unfold Blk at h
  simp [World.frozen?, h]
theorem Blk.new (w : World) (t : TypeId) (cs : Array Value) : Blk (w.alloc (.cells cs t)) w.heap.size t cs := heap_alloc_new w _
theorem Blk.drew (h : Blk w g t cs) : Blk w.drew g t cs := h
theorem Blk.drewN (h : Blk w g t cs) (n : Nat) : Blk (w.drewN n) g t cs := h
theorem Blk.alloc (h : Blk w g t cs) (o : Obj) : Blk (w.alloc o) g t cs := (Below.heap_alloc w o g h.lt).trans h
theorem Blk.set_ (h : Blk w g t cs) (i : Nat) (u : Value) : Blk (w.setCell ⟨g, i, none⟩ u) g t (cs.setIfInBounds i u) := by
  unfold Blk at h ⊢
  simp [World.setCell, Array.getElem?_modify, h]
theorem Blk.far (h : Blk w g t cs) {p : Addr} (hp : g ≠ p.block) (u : Value) : Blk (w.setCell p u) g t cs := (Below.heap_setCell w p u g hp).trans h
theorem Blk.below {B : Nat} (h : Blk w g t cs) (hb : Below B w w') (hg : g < B) : Blk w' g t cs := (hb.block g hg).trans h
theorem Blk.grown {row : Option Nat} (h : Blk w g t cs) (hb : w.grownBy w' row) (hg : some g ≠ row) : Blk w' g t cs := (hb.block g h.lt hg).trans h
theorem Blk.ne_ {g' : Nat} {t' : TypeId} {cs' : Array Value} (h : Blk w g t cs) (h' : Blk w g' t' cs') (hne : t ≠ t') : g ≠ g' := by
  rintro rfl
  unfold Blk at h h'
  rw [h] at h'
  injection h' with h'
  injection h' with _ ht
  exact hne ht
/-- A slice that is a whole block, from its first cell on. -/
theorem Blk.slc (h : Blk w g t cs) {sz n c : Nat} (hl : n * sz ≤ cs.size) (hnc : n ≤ c) (hc : c ≤ maxLen) : Slc w (g + 1) sz (some ⟨g, 0, none⟩) n c (cs.toList.take (n * sz)) :=
  ⟨by simp; omega, hnc, hc, fun _ => ⟨g, 0, rfl, by omega, fun j u hu => by
    rw [Nat.zero_add, h.cell]
    rw [List.getElem?_take] at hu
    split at hu
    · simpa using hu
    · cases hu⟩⟩
end

/-- A slice that is a whole new block, marked or not. -/
theorem slc_new (w : World) (t : TypeId) (fr : Nat × Nat) (cs : Array Value) {sz n c : Nat} (hl : cs.size = n * sz) (hnc : n ≤ c) (hc : c ≤ maxLen) : Slc (w.alloc (.cells cs t fr)) (w.heap.size + 1) sz (some ⟨w.heap.size, 0, none⟩) n c cs.toList :=
  ⟨by simpa using hl, hnc, hc, fun _ => ⟨w.heap.size, 0, rfl, by omega, fun j u hu => by
    rw [Nat.zero_add, World.cell?_alloc_mark]
    simpa using hu⟩⟩

def zbytes (n : Nat) : Array Value := (List.replicate n (.int .u8 0)).toArray
theorem zbytes_size (n : Nat) : (zbytes n).size = n := by simp [zbytes]

/-- A slice of bytes as a string: nil, empty or not. -/
theorem convert_bytes {P : Program} {src e : TypeId} (hs : P.underlying src = some (.slice e)) (he : P.underlying e = some (.int .u8)) {w : World} {B : Nat} {A : Option Addr} {n c : Nat} {l : List UInt8} (h : Slc w B 1 A n c (l.map bv)) :
    ∀ dst, P.underlying dst = some .string → (convert src dst (.slice A n c)).run P w = .ok (.string ⟨l.toArray⟩) w := by
  intro dst hd
  have hlen : l.length = n := by have := h.len; simpa using this
  rcases Nat.eq_zero_or_pos n with h0 | h0
  · subst h0
    have hl : l = [] := List.eq_nil_of_length_eq_zero (by omega)
    subst hl
    cases A with
    | none => rw [run_convert_bytes_nil w src e hs he 0 c dst hd]; rfl
    | some a => exact run_convert_bytes_back w src dst e a c [] hs he hd (fun j hj => absurd hj (by simp))
  · obtain ⟨b, off, rfl, _, hc⟩ := h.at_ h0
    subst hlen
    exact run_convert_bytes_back w src dst e ⟨b, off, none⟩ c l hs he hd (fun j hj => by
      rw [addr_of_add]
      exact hc j _ (by simp [bv, List.getElem?_map, List.getElem?_eq_getElem hj]))

/-- A string as a new slice of bytes. -/
theorem convert_string {P : Program} {src dst e : TypeId} (hs : P.underlying src = some .string) (hd : P.underlying dst = some (.slice e)) (he : P.underlying e = some (.int .u8)) (w : World) (s : ByteArray) (hm : s.size ≤ maxLen) :
    ∃ cap w', (convert src dst (.string s)).run P w = .ok (.slice (some ⟨w.heap.size, 0, none⟩) s.size cap) w' ∧ Below w.heap.size w w' ∧ w'.heap.size = w.heap.size + 1 ∧
      Slc w' (w.heap.size + 1) 1 (some ⟨w.heap.size, 0, none⟩) s.size cap (s.data.toList.map bv) := by
  refine ⟨_, _, run_bytes_of_string w src dst e s hs hd he, ((Below.refl _ w).drew).alloc (Nat.le_refl _) _, by simp, ?_⟩
  refine ⟨by rw [List.length_map, Array.length_toList, Nat.mul_one]; rfl, grownCap_ge _ _ _ _, grownCap_le_maxLen _ _ _ _ hm, fun _ => ⟨w.heap.size, 0, rfl, by omega, fun j u hu => ?_⟩⟩
  have hj : j < s.data.size := by
    rcases Nat.lt_or_ge j s.data.size with h | h
    · exact h
    · rw [List.getElem?_eq_none (by simpa using h)] at hu; cases hu
  have h1 := World.cell?_alloc_mark w.drew (bytesRow s (grownCap w s.size 0 e)) e ((bytesRow s (grownCap w s.size 0 e)).size, (bytesRow s (grownCap w s.size 0 e)).size + 1) j
  rw [bytesRow_at s _ j hj] at h1
  rw [List.getElem?_map, Array.getElem?_toList, Array.getElem?_eq_getElem hj] at hu
  simp only [Option.map_some, Option.some.injEq] at hu
  subst hu
  rw [Nat.zero_add]
  exact h1

/-- What an owned row is as a slice. -/
theorem own_slc {w : World} {base : Nat} {e : TypeId} {size n : Nat} {v : Value} {xs : List Value} (h : w.ownsRow base e size v n xs) :
    ∃ A c, v = .slice A n c ∧ Slc w w.heap.size size A n c xs ∧ ∀ a, A = some a → a.spot = none ∧ a.off = 0 ∧ base ≤ a.block := by
  rcases h.2 with ⟨rfl, rfl⟩ | ⟨g, cap, cur, rfl, hb, hh, hnc, hcm, hcs, ht⟩
  · exact ⟨none, 0, rfl, ⟨h.1, Nat.le_refl _, Nat.zero_le _, fun h => absurd h (by decide)⟩, fun a h => by cases h⟩
  · refine ⟨some ⟨g, 0, none⟩, cap, rfl, ⟨h.1, hnc, hcm, fun _ => ⟨g, 0, rfl, (Array.getElem?_eq_some_iff.1 hh).1, fun j u hu => ?_⟩⟩, fun a h => by cases h; exact ⟨rfl, rfl, hb⟩⟩
    have := h.cells (g := g) rfl j u hu
    rw [Nat.zero_add]
    have hadd : (⟨g, 0, none⟩ : Addr).add j = ⟨g, j, none⟩ := by unfold Addr.add; split <;> simp_all
    rwa [hadd] at this

theorem own_slc_of {w : World} {base : Nat} {e : TypeId} {size n n' c : Nat} {A : Option Addr} {xs : List Value} (h : w.ownsRow base e size (.slice A n' c) n xs) : Slc w w.heap.size size A n c xs := by
  obtain ⟨A', c', hv, hs, _⟩ := own_slc h
  injection hv with e1 e2 e3
  subst e1 e3
  exact hs

theorem addr_add (b off j : Nat) : (⟨b, off, none⟩ : Addr).add j = ⟨b, off + j, none⟩ := by unfold Addr.add; split <;> simp_all

/-- append onto a row of the call's own, the source nil, empty or not. -/
theorem append_slc {P : Program} (w : World) (base : Nat) (t ty e : TypeId) (i : TypeInfo) (z : Value) (size bytes : Nat) (ht : P.underlying t = some (.slice e)) (hi : P.info? e = some i) (hz : i.zero = some z)
    (hsize : i.size = size) (hby : i.bytes = bytes) (hzs : z.cells.size = size) (hsz : 0 < size)
    (v : Value) (n : Nat) (xs : List Value) (hown : w.ownsRow base e size v n xs)
    (B : Nat) (A : Option Addr) (m c : Nat) (news : List Value) (hr : Slc w B size A m c news) (h1 : ∀ u ∈ news, u.oneCell' = true)
    (h63 : n + m ≤ maxLen) (hbytes : (n + m) * bytes ≤ 140737488355328) (hbase : base ≤ w.heap.size) :
    ∃ A' c' w', (Builtin.append_ #[t, t] ty #[v, .slice A m c]).run P w = .ok (.slice A' (n + m) c') w' ∧ w'.ownsRow base e size (.slice A' (n + m) c') (n + m) (xs ++ news) ∧ w.grownBy w' v.ownBlock ∧
      ((Value.slice A' (n + m) c').ownBlock = v.ownBlock ∨ (Value.slice A' (n + m) c').ownBlock = some w.heap.size) := by
  have key : ∃ v' w', (Builtin.append_ #[t, t] ty #[v, .slice A m c]).run P w = .ok v' w' ∧ w'.ownsRow base e size v' (n + m) (xs ++ news) ∧ w.grownBy w' v.ownBlock ∧
      (v'.ownBlock = v.ownBlock ∨ v'.ownBlock = some w.heap.size) := by
    rcases A with _ | ad
    · have hm : m = 0 := by
        rcases Nat.eq_zero_or_pos m with h0 | h0
        · exact h0
        · obtain ⟨b, off, h, _⟩ := hr.at_ h0
          cases h
      subst hm
      have hn : news = [] := List.eq_nil_of_length_eq_zero (by simpa using hr.len)
      subst hn
      refine ⟨v, w, ?_, by simpa using hown, World.grownBy.refl w _, .inl rfl⟩
      rcases hown.2 with ⟨rfl, rfl⟩ | ⟨g, cap, cur, rfl, _, _, hnc, _⟩
      · simp [Builtin.append_, run_underlying ht, sizeOf, typeInfo, hi, Builtin.lenOf, Builtin.firstCells]
      · simp [Builtin.append_, run_underlying ht, sizeOf, typeInfo, hi, Builtin.lenOf, Builtin.firstCells, hnc, storeCells]
    · have hcells : ∀ j u, news[j]? = some u → w.cell? (ad.add j) = some u := by
        intro j u hu
        rcases Nat.eq_zero_or_pos m with h0 | h0
        · subst h0
          have hn : news = [] := List.eq_nil_of_length_eq_zero (by simpa using hr.len)
          subst hn
          simp at hu
        · obtain ⟨b, off, h, _, hc⟩ := hr.at_ h0
          injection h with h
          subst h
          rw [addr_add]
          exact hc j u hu
      obtain ⟨v', w', hrun, h2, h3, _, h5⟩ := run_append_own_at (P := P) w base t ty e i z size bytes ht hi hz hsize hby hzs hsz v n xs hown ad m c news hr.len hcells h1 h63 hbytes hbase
      exact ⟨v', w', hrun, h2, h3, h5⟩
  obtain ⟨v', w', h1, h2, h3, h4⟩ := key
  obtain ⟨A', c', rfl, _⟩ := own_slc h2
  exact ⟨A', c', w', h1, h2, h3, h4⟩

/-- append in a walk, by what its run is known to give. -/
theorem wp_append_run {P : Program} {o : Oper} {a : Act} {K : Act → World → Prop} {Q : Exit → Act → World → Prop} (s x : Operand) (t : TypeId)
    (ho : o.op = .call { callee := .builtin .append, args := #[s, x], argTypes := #[t, t] }) {w w' : World} {v y v' : Value} (hs : a.eval s = v) (hx : a.eval x = y)
    (hrun : (Builtin.append_ #[t, t] o.type #[v, y]).run P w = .ok v' w') (h : K (a.put o.dst v') w') : o.wp P a w K Q := by
  unfold Oper.wp execOp
  simp only [ho, resolve, invoke, builtin, Sem.run_bind, Sem.run_pure, Result.andThen_ok, List.map_toArray, List.map_cons, List.map_nil, hs, hx, hrun]
  exact h
theorem wpList_append_run {P : Program} {ops : Array Oper} {rest : List Oper} {o : Oper} {a : Act} {Q : Exit → Act → World → Prop} (hgd : o.guard = none) (s x : Operand) (t : TypeId)
    (ho : o.op = .call { callee := .builtin .append, args := #[s, x], argTypes := #[t, t] }) {w w' : World} {v y v' : Value} (hs : a.eval s = v) (hx : a.eval x = y)
    (hrun : (Builtin.append_ #[t, t] o.type #[v, y]).run P w = .ok v' w') (h : wpList P ops Q rest (a.put o.dst v') w') : wpList P ops Q (o :: rest) a w :=
  wpList_plain hgd fun _ hK => wp_append_run s x t ho hs hx hrun (hK _ _ h)

theorem bv_one (c : UInt8) : (bv c).oneCell' = true := rfl
theorem bvs_one (l : List UInt8) : ∀ u ∈ l.map bv, u.oneCell' = true := by
  intro u hu
  obtain ⟨c, _, rfl⟩ := List.mem_map.1 hu
  rfl

theorem byte_info : (Tryz.prog.info? 5).map (fun i => (i.zero, i.size, i.bytes)) = some (some (.int .u8 0), 1, 1) := by kernel_rfl

/-- append of bytes onto a row of the call's own. -/
theorem append_bytes (w : World) (base : Nat) (v : Value) (n : Nat) (l : List UInt8) (hown : w.ownsRow base 5 1 v n (l.map bv))
    (B : Nat) (A : Option Addr) (m c : Nat) (k : List UInt8) (hr : Slc w B 1 A m c (k.map bv)) (hb : n + m ≤ 140737488355328) (hbase : base ≤ w.heap.size) :
    ∃ A' c' w', (Builtin.append_ #[33, 33] 33 #[v, .slice A m c]).run Tryz.prog w = .ok (.slice A' (n + m) c') w' ∧ w'.ownsRow base 5 1 (.slice A' (n + m) c') (n + m) ((l ++ k).map bv) ∧ w.grownBy w' v.ownBlock ∧
      ((Value.slice A' (n + m) c').ownBlock = v.ownBlock ∨ (Value.slice A' (n + m) c').ownBlock = some w.heap.size) := by
  obtain ⟨i, hi, hz0, hz1, hz2⟩ := info_parts byte_info
  rw [List.map_append]
  exact append_slc w base _ _ _ i _ 1 1 Tryz.underlying33 hi hz0 hz1 hz2 rfl (by decide) v n _ hown B A m c _ hr (bvs_one k) (by unfold maxLen; omega) (by omega) hbase

/-- A cut from the head on. -/
theorem Slc.upto {w : World} {B : Nat} {A : Option Addr} {n c : Nat} {xs : List Value} (h : Slc w B 1 A n c xs) {m : Nat} (hm : m ≤ n) : Slc w B 1 A m c (xs.take m) :=
  ⟨by have := h.len; simp; omega, by have := h.le; omega, h.cmax, fun hp => by
    obtain ⟨b, off, e, hb, hc⟩ := h.at_ (by omega)
    exact ⟨b, off, e, hb, fun j u hu => hc j u (by
      rw [List.getElem?_take] at hu
      split at hu
      · exact hu
      · cases hu)⟩⟩
end Go.Proofs.YtibndaianhlcaaaGreatDoor
namespace Go.Proofs.YtibndaianhlcaaaGreatDoor

/-- What Update computes. -/
def upd (s : UInt64) (c : UInt8) : UInt64 := (s ^^^ c.toUInt64) * 1099511628211
def updAll (s : UInt64) (l : List UInt8) : UInt64 := l.foldl upd s

theorem updAll_take (s : UInt64) (l : List UInt8) (k : Nat) (h : k < l.length) : updAll s (l.take (k + 1)) = upd (updAll s (l.take k)) l[k] := by
  unfold updAll
  rw [List.take_succ_eq_append_getElem h, List.foldl_append]; rfl

theorem updAll_append (s : UInt64) (l m : List UInt8) : updAll s (l ++ m) = updAll (updAll s l) m := by
  unfold updAll; rw [List.foldl_append]

theorem u64_lt (s : UInt64) : s.toNat < 18446744073709551616 := s.toNat_lt
theorem u8_lt (c : UInt8) : c.toNat < 256 := c.toNat_lt

theorem wrap_u64 (n : Int) : IntKind.u64.wrap n = n % 18446744073709551616 := by simp [IntKind.wrap, IntKind.bits, IntKind.signed]
theorem wrap_u64_nat (n : Nat) (h : n < 18446744073709551616) : IntKind.u64.wrap (n : Int) = n := by rw [wrap_u64]; omega

theorem upd_wrap (t : UInt64) (c : UInt8) :
    IntKind.u64.wrap (bits BinOp.xor IntKind.u64 (t.toNat : Int) (IntKind.u64.wrap (c.toNat : Int)) * 1099511628211) = ((upd t c).toNat : Int) := by
  rw [wrap_u64_nat c.toNat (by have := u8_lt c; omega), u64_xor_nat _ _ (u64_lt t) (by have := u8_lt c; omega), wrap_u64]
  unfold upd
  rw [UInt64.toNat_mul, UInt64.toNat_xor]
  have e1 : (c.toUInt64).toNat = c.toNat := by simp
  rw [e1]
  have e2 : (1099511628211 : UInt64).toNat = 1099511628211 := rfl
  rw [e2]
  generalize t.toNat ^^^ c.toNat = x
  omega

theorem upd_wrap' (t : UInt64) (c : UInt8) :
    IntKind.u64.wrap (bits BinOp.xor IntKind.u64 (t.toNat : Int) (c.toNat : Int) * 1099511628211) = ((upd t c).toNat : Int) := by
  rw [← upd_wrap, wrap_u64_nat c.toNat (by have := u8_lt c; omega)]

/-- One byte that is changed is seen: each step is one to one in the sum, and in the byte. -/
theorem upd_inj_left {s t : UInt64} {c : UInt8} (h : upd s c = upd t c) : s = t := by
  unfold upd at h
  have hx : (s ^^^ c.toUInt64) * 1099511628211 * 14886173955864302971 = (t ^^^ c.toUInt64) * 1099511628211 * 14886173955864302971 := by rw [h]
  have h1 : (1099511628211 : UInt64) * 14886173955864302971 = 1 := by decide
  rw [UInt64.mul_assoc, UInt64.mul_assoc, h1, UInt64.mul_one, UInt64.mul_one] at hx
  have := congrArg (· ^^^ c.toUInt64) hx
  simpa [UInt64.xor_assoc] using this

theorem upd_inj_right {s : UInt64} {c d : UInt8} (h : upd s c = upd s d) : c = d := by
  unfold upd at h
  have hx : (s ^^^ c.toUInt64) * 1099511628211 * 14886173955864302971 = (s ^^^ d.toUInt64) * 1099511628211 * 14886173955864302971 := by rw [h]
  have h1 : (1099511628211 : UInt64) * 14886173955864302971 = 1 := by decide
  rw [UInt64.mul_assoc, UInt64.mul_assoc, h1, UInt64.mul_one, UInt64.mul_one] at hx
  have := congrArg (s ^^^ ·) hx
  simp [← UInt64.xor_assoc] at this
  exact UInt8.toNat_inj.1 (by simpa using congrArg UInt64.toNat this)

theorem updAll_inj (l : List UInt8) : ∀ {s t : UInt64}, updAll s l = updAll t l → s = t := by
  induction l with
  | nil => intro s t h; exact h
  | cons c l ih => intro s t h; exact upd_inj_left (ih h)

theorem updAll_seen (s : UInt64) (l : List UInt8) (i : Nat) (c : UInt8) (hi : i < l.length) (h : c ≠ l[i]) : updAll s (l.set i c) ≠ updAll s l := by
  intro he
  have e1 : l.set i c = l.take i ++ c :: l.drop (i + 1) := by rw [List.set_eq_take_append_cons_drop, if_pos hi]
  have e2 : l = l.take i ++ l[i] :: l.drop (i + 1) := by simp
  rw [e1] at he
  conv at he => rhs; rw [e2]
  rw [updAll_append, updAll_append] at he
  exact h (upd_inj_right (updAll_inj _ he))

/-- A digit. -/
def dig (d : Nat) : UInt8 := if d < 10 then UInt8.ofNat (48 + d) else UInt8.ofNat (87 + d)
/-- The n lowest digits of s. -/
def hexl : Nat → Nat → List UInt8
  | 0, _ => []
  | n + 1, s => hexl n (s / 16) ++ [dig (s % 16)]

theorem hexl_length (n : Nat) : ∀ s, (hexl n s).length = n := by
  induction n with
  | zero => intro s; rfl
  | succ n ih => intro s; simp [hexl, ih]

theorem hexl_succ (n : Nat) : ∀ s, hexl (n + 1) s = dig (s / 16 ^ n % 16) :: hexl n s := by
  induction n with
  | zero => intro s; simp [hexl]
  | succ n ih =>
    intro s
    rw [show hexl (n + 1 + 1) s = hexl (n + 1) (s / 16) ++ [dig (s % 16)] from rfl, ih (s / 16), Nat.div_div_eq_div_mul,
      show hexl (n + 1) s = hexl n (s / 16) ++ [dig (s % 16)] from rfl, Nat.pow_succ, Nat.mul_comm (16 ^ n) 16]
    rfl

/-- What a digit is worth. -/
def val (c : UInt8) : Option Nat :=
  if 48 ≤ c.toNat ∧ c.toNat ≤ 57 then some (c.toNat - 48) else if 97 ≤ c.toNat ∧ c.toNat ≤ 102 then some (c.toNat - 87) else none

theorem val_dig (d : Nat) (h : d < 16) : val (dig d) = some d := by
  have : ∀ d : Fin 16, val (dig d) = some d.val := by decide
  exact this ⟨d, h⟩
theorem val_some {c : UInt8} {d : Nat} (h : val c = some d) : d < 16 ∧ dig d = c := by
  have : ∀ n : Fin 256, ∀ d, val (UInt8.ofNat n) = some d → d < 16 ∧ dig d = UInt8.ofNat n := by
    intro n d hd
    have hn := n.isLt
    unfold val at hd
    have e : (UInt8.ofNat (n : Nat)).toNat = n := by simp
    rw [e] at hd
    split at hd
    · injection hd with hd; subst hd; rename_i hh; refine ⟨by omega, ?_⟩
      unfold dig; rw [if_pos (by omega)]; congr 1; try omega
    · split at hd
      · injection hd with hd; subst hd; rename_i hh; refine ⟨by omega, ?_⟩
        unfold dig; rw [if_neg (by omega)]; congr 1; try omega
      · cases hd
  have h2 := this ⟨c.toNat, c.toNat_lt⟩ d
  simp at h2
  exact h2 h

/-- The number of a row of digits, on top of s. -/
def hexVal : Nat → List UInt8 → Option Nat
  | s, [] => some s
  | s, c :: l => match val c with
    | none => none
    | some d => hexVal (s * 16 + d) l

theorem hexVal_append (l m : List UInt8) : ∀ s, hexVal s (l ++ m) = (hexVal s l).bind fun t => hexVal t m := by
  induction l with
  | nil => intro s; rfl
  | cons c l ih => intro s; simp only [List.cons_append, hexVal]; cases val c <;> simp [ih]

theorem hexVal_hexl (n : Nat) : ∀ t s, hexVal t (hexl n s) = some (t * 16 ^ n + s % 16 ^ n) := by
  induction n with
  | zero => intro t s; simp [hexl, hexVal, Nat.mod_one]
  | succ n ih =>
    intro t s
    rw [show hexl (n + 1) s = hexl n (s / 16) ++ [dig (s % 16)] from rfl, hexVal_append, ih]
    simp only [Option.bind_some, hexVal, val_dig _ (Nat.mod_lt s (by decide : 0 < 16))]
    congr 1
    rw [Nat.pow_succ, Nat.mul_comm (16 ^ n) 16, Nat.mod_mul, Nat.add_mul]
    have : t * (16 * 16 ^ n) = t * 16 ^ n * 16 := by rw [Nat.mul_comm 16, Nat.mul_assoc]
    omega

theorem hexVal_lt (l : List UInt8) : ∀ s t, hexVal s l = some t → t < (s + 1) * 16 ^ l.length ∧ hexl l.length t = l ∧ t / 16 ^ l.length = s := by
  induction l with
  | nil => intro s t h; injection h with h; subst h; simp [hexl]
  | cons c l ih =>
    intro s t h
    simp only [hexVal] at h
    cases hv : val c with
    | none => rw [hv] at h; cases h
    | some d =>
      rw [hv] at h
      obtain ⟨h1, h2⟩ := val_some hv
      obtain ⟨i1, i2, i3⟩ := ih _ _ h
      refine ⟨?_, ?_, ?_⟩
      · have : (s * 16 + d + 1) * 16 ^ l.length ≤ (s + 1) * 16 ^ (c :: l).length := by
          rw [List.length_cons, Nat.pow_succ, Nat.mul_comm (16 ^ _) 16, ← Nat.mul_assoc]
          exact Nat.mul_le_mul_right _ (by omega)
        omega
      · rw [List.length_cons, hexl_succ, i2, i3, show (s * 16 + d) % 16 = d by omega, h2]
      · rw [List.length_cons, Nat.pow_succ, ← Nat.div_div_eq_div_mul, i3]; omega

/-- What Parse answers. -/
def parsed (l : List UInt8) : Option Nat := if l.length = 16 then hexVal 0 l else none
end Go.Proofs.YtibndaianhlcaaaGreatDoor
namespace Go.Proofs.YtibndaianhlcaaaGreatDoor
open Go.RowKit

theorem num_u64 (a b : UInt64) (h : a = b) : Value.int .u64 (a.toNat : Int) = Value.int .u64 (b.toNat : Int) := by rw [h]


def begin64 : UInt64 := 14695981039346656037
theorem begin64_eq : (14695981039346656037 : Int) = (begin64.toNat : Int) := rfl

end Go.Proofs.YtibndaianhlcaaaGreatDoor
namespace Go.Proofs.YtibndaianhlcaaaGreatDoor
open Go.RowKit

theorem hexVal_take (l : List UInt8) (k : Nat) (h : k < l.length) (t : Nat) (ht : hexVal 0 (l.take k) = some t) :
    hexVal 0 (l.take (k + 1)) = (val l[k]).map fun d => t * 16 + d := by
  rw [List.take_succ_eq_append_getElem h, hexVal_append, ht]
  simp only [Option.bind_some, hexVal]
  cases val l[k] <;> rfl
theorem hexVal_none (l : List UInt8) (k : Nat) (h : hexVal 0 (l.take k) = none) : hexVal 0 l = none := by
  rw [← List.take_append_drop k l, hexVal_append, h]; rfl

theorem shl_or (t d : Nat) (h : t < 16 ^ 15) (hd : d < 16) :
    bits BinOp.or IntKind.u64 (IntKind.u64.wrap ((t : Int) * 16)) (d : Int) = ((t * 16 + d : Nat) : Int) := by
  rw [show ((t : Int) * 16) = ((t * 16 : Nat) : Int) by omega, wrap_u64_nat _ (by omega), u64_or_nat _ _ (by omega) (by omega), nat_join 4 _ _ (by omega) (by omega)]

def optRes : Option Nat → Value
  | some t => .tuple #[.int .u64 (t : Int), .bool true]
  | none => .tuple #[.int .u64 0, .bool false]

end Go.Proofs.YtibndaianhlcaaaGreatDoor
