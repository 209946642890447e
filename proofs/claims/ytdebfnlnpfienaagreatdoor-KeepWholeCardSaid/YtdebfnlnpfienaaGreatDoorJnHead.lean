/- A record's head: the program's. -/
import Derived.Test.YtdebfnlnpfienaaGreatDoorJnZeros
import Derived.Test.YtdebfnlnpfienaaGreatDoorOrdEach
import Derived.Test.YtdebfnlnpfienaaGreatDoorCrcW
import Derived.Lib.UnsafeStr
namespace Go.Proofs.YtdebfnlnpfienaaGreatDoor
open Go.RowKit Lift Crc
set_option linter.unusedSimpArgs false
set_option linter.unusedVariables false

theorem u8_of (n : Nat) : IntKind.u8.wrap (n : Int) = ((u8n n).toNat : Int) := by
  rw [u8n_toNat, IntKind.wrap_u8]; omega
theorem bytes_lit (w : World) (l : List UInt8) (cs : Array Value) (hc : cs.toList = l.map (fun a => .int .u8 (a.toNat : Int))) (n : Nat) (hn : n = l.length) (hm : n ≤ maxLen) :
    Own rByte (fun _ => True) (w.alloc (.cells cs 5)) w.heap.size 5 (.slice (some ⟨w.heap.size, 0, none⟩) n n) l := by
  subst hn
  have h1 := World.ownsRow_lit (base := w.heap.size) (e := 5) (size := 1) w cs l.length (Nat.le_refl _) hm (by have := congrArg List.length hc; simpa using this)
  refine ⟨_, h1, l.map (fun a => [.int .u8 (a.toNat : Int)]), ?_, by simp, fun k c hk => ⟨[.int .u8 (c.toNat : Int)], by simp [hk], rfl⟩⟩
  rw [hc]
  clear h1 hc hm
  induction l with
  | nil => rfl
  | cons a l ih => simp [ih]
set_option maxHeartbeats 1000000 in
set_option maxRecDepth 100000 in
theorem four_any (n : Nat) (hn : n < 4294967296) (w : World) : Calls Tryz.prog 86 #[.int .u32 n] w (BytesPost (fourL n) w) := by
  have e0 := u8_of n
  have e1 := u8_of (n / 256)
  have e2 := u8_of (n / 65536)
  have e3 := u8_of (n / 16777216)
  go_enter Tryz.func86, Tryz.ntmps86
  go_wp2_with fail
  go_ret
  exact ⟨_, rfl, bytes_lit w (fourL n) _ (by simp [fourL, u8n_toNat]; omega) 4 rfl (by decide), (Below.refl _ _).alloc (Nat.le_refl _) _⟩
/-- A world in which a row of bytes is marked as made of a text. -/
def markW (W : World) (g : Nat) : World := match W.shape? g with
  | some (_, n) => W.freeze ⟨g, n, none⟩ 1
  | none => W
theorem below_mark {B : Nat} {a W : World} {g : Nat} (h : Below B a W) (hg : B ≤ g) : Below B a (markW W g) := by
  unfold markW
  split
  · exact Lib.below_freeze h hg _
  · exact h
theorem markW_size (W : World) (g : Nat) : (markW W g).heap.size = W.heap.size := by
  unfold markW; split
  · simp [World.freeze]
  · rfl
theorem run_conv_bytes (W : World) (g n c : Nat) : (convert 83 83 (.slice (some ⟨g, 0, none⟩) n c)).run Tryz.prog W = .ok (.slice (some ⟨g, 0, none⟩) n c) (markW W g) := by
  unfold markW
  cases h : W.shape? g with
  | none => simp [convert, go_sem, run_underlying Tryz.underlying83, run_underlying Tryz.underlying5, markStringish, h]
  | some p => simp [convert, go_sem, run_underlying Tryz.underlying83, run_underlying Tryz.underlying5, markStringish, h]
theorem mark_cell (W : World) (g : Nat) (a : Addr) : (markW W g).cell? a = W.cell? a := by
  unfold markW
  split
  · rename_i n _
    unfold World.freeze World.cell?
    simp only [Nat.one_ne_zero, ↓reduceIte, Array.getElem?_modify]
    by_cases e : g = a.block
    · subst e
      simp only [↓reduceIte]
      cases h : W.heap[a.block]? with
      | none => simp
      | some o => cases o <;> simp
    · simp only [e, ↓reduceIte]
  · rfl
/-- Bytes that stand: by any step. -/
abbrev HasS (W : World) (a : Option Addr) (l : List UInt8) : Prop := SlAt rByte (· < W.heap.size) W a l
theorem HasS.call {W w' : World} {a : Option Addr} {l : List UInt8} (h : HasS W a l) (hb : Below W.heap.size W w') : HasS w' a l := (SlAt.below h hb).mono (fun b h1 _ => Nat.lt_of_lt_of_le h1 hb.size)
theorem HasS.drew {W : World} {a : Option Addr} {l : List UInt8} (h : HasS W a l) : HasS W.drew a l := h.call (Below.refl _ _).drew
theorem HasS.alloc {W : World} {a : Option Addr} {l : List UInt8} (h : HasS W a l) (o : Obj) : HasS (W.alloc o) a l := h.call ((Below.refl _ _).alloc (Nat.le_refl _) o)
theorem HasS.mark {W : World} {a : Option Addr} {l : List UInt8} (h : HasS W a l) (g : Nat) : HasS (markW W g) a l := by
  rcases h with rfl | ⟨b, off, rfl, h1, h2, h3⟩
  · exact .inl rfl
  · refine .inr ⟨b, off, rfl, by rw [markW_size]; exact h1, by rw [markW_size]; exact h2, fun k c hk => ?_⟩
    obtain ⟨cs, e, h4⟩ := h3 k c hk
    exact ⟨cs, e, fun i v hi => by rw [mark_cell]; exact h4 i v hi⟩
theorem HasS.one (W : World) (g : Nat) (hg : g = W.heap.size) : HasS (W.alloc (.cells #[.int .u8 165] 5)) (some ⟨g, 0, none⟩) [165] := by
  subst hg
  exact bytes_at (by simp) (fun k c hk => by
    match k, hk with
    | 0, hk => cases hk; simp [go_sem]
    | k + 1, hk => simp at hk)
theorem HasS.two (W : World) (x : BitVec 16) (g : Nat) (hg : g = W.heap.size) : HasS (W.alloc (.cells #[.int .u8 (IntKind.u8.wrap (w16 x)), .int .u8 (IntKind.u8.wrap (w16 x / 256))] 5)) (some ⟨g, 0, none⟩) [lo x, hi x] := by
  subst hg
  exact bytes_at (by simp) (fun k c hk => by
    match k, hk with
    | 0, hk => cases hk; simp [go_sem]; rw [IntKind.wrap_u8]; exact lo_w x
    | 1, hk => cases hk; simp [go_sem]; rw [IntKind.wrap_u8]; exact hi_w x
    | k + 2, hk => simp at hk)
structure Sl5 (W : World) (a : Option Addr) (n c : Nat) (l : List UInt8) : Prop where
  at' : HasS W a l
  len : n = l.length
  c1 : n ≤ c
  c2 : c ≤ maxLen
  nil : a = none → c = 0
theorem row5 (W : World) (a0 a1 a2 a3 a4 : Option Addr) (n0 n1 n2 n3 n4 c0 c1 c2 c3 c4 : Nat) (l0 l1 l2 l3 l4 : List UInt8) (h0 : Sl5 W a0 n0 c0 l0) (h1 : Sl5 W a1 n1 c1 l1) (h2 : Sl5 W a2 n2 c2 l2) (h3 : Sl5 W a3 n3 c3 l3) (h4 : Sl5 W a4 n4 c4 l4) :
    SlAt rByte.slice (· < (W.alloc (.cells #[.slice a0 n0 c0, .slice a1 n1 c1, .slice a2 n2 c2, .slice a3 n3 c3, .slice a4 n4 c4] 83)).heap.size) (W.alloc (.cells #[.slice a0 n0 c0, .slice a1 n1 c1, .slice a2 n2 c2, .slice a3 n3 c3, .slice a4 n4 c4] 83)) (some ⟨W.heap.size, 0, none⟩) [l0, l1, l2, l3, l4] := by
  obtain ⟨h0, rfl, p0, q0, r0⟩ := h0; obtain ⟨h1, rfl, p1, q1, r1⟩ := h1; obtain ⟨h2, rfl, p2, q2, r2⟩ := h2; obtain ⟨h3, rfl, p3, q3, r3⟩ := h3; obtain ⟨h4, rfl, p4, q4, r4⟩ := h4
  have hone : ∀ (k : Nat) (v : Value), (#[Value.slice a0 l0.length c0, .slice a1 l1.length c1, .slice a2 l2.length c2, .slice a3 l3.length c3, .slice a4 l4.length c4] : Array Value)[k]? = some v → CellsAt (W.alloc (.cells #[.slice a0 l0.length c0, .slice a1 l1.length c1, .slice a2 l2.length c2, .slice a3 l3.length c3, .slice a4 l4.length c4] 83)) W.heap.size (0 + k * rByte.slice.n) [v] := fun k v hk i u hi => by
    match i, hi with
    | 0, hi => cases hi; rw [World.cell?_alloc_new]; simpa [Rd.slice] using hk
    | i + 1, hi => simp at hi
  refine .inr ⟨W.heap.size, 0, rfl, by simp, by simp, fun k c hk => ?_⟩
  match k, hk with
  | 0, hk => cases hk; exact ⟨_, ⟨a0, c0, rfl, p0, q0, r0, h0.alloc _⟩, hone 0 _ rfl⟩
  | 1, hk => cases hk; exact ⟨_, ⟨a1, c1, rfl, p1, q1, r1, h1.alloc _⟩, hone 1 _ rfl⟩
  | 2, hk => cases hk; exact ⟨_, ⟨a2, c2, rfl, p2, q2, r2, h2.alloc _⟩, hone 2 _ rfl⟩
  | 3, hk => cases hk; exact ⟨_, ⟨a3, c3, rfl, p3, q3, r3, h3.alloc _⟩, hone 3 _ rfl⟩
  | 4, hk => cases hk; exact ⟨_, ⟨a4, c4, rfl, p4, q4, r4, h4.alloc _⟩, hone 4 _ rfl⟩
  | k + 5, hk => simp at hk
theorem conv_text {w : World} {a : Option Addr} {c : Nat} {l : List UInt8} (h : HasS w a l) (h0 : 0 < l.length) : (convert 83 9 (.slice a l.length c)).run Tryz.prog w = .ok (.string ⟨l.toArray⟩) w := by
  obtain ⟨y, hy⟩ := some_at h0
  obtain ⟨b, off, rfl, _, _, _⟩ := byte_get h hy
  refine run_convert_bytes_back w 83 9 5 ⟨b, off, none⟩ c l Tryz.underlying83 Tryz.underlying5 Tryz.underlying9 ?_
  intro j hj
  obtain ⟨b', off', e, _, _, hc⟩ := byte_get h (List.getElem?_eq_getElem hj)
  cases e
  rw [Addr.add_lit]
  exact hc
theorem one_max : 1 ≤ maxLen := by decide
theorem two_max : 2 ≤ maxLen := by decide
theorem some_nil {a : Addr} {c : Nat} : some a = none → c = 0 := fun e => nomatch e
theorem sl5_of {w0 W : World} {a : Option Addr} {n c base : Nat} {l : List UInt8} (h : Own rByte (fun _ => True) w0 base 5 (.slice a n c) l) (hs : HasS w0 a l → HasS W a l) : Sl5 W a n c l :=
  ⟨hs h.here, h.cap.2.2.1, by rw [h.cap.2.2.1]; exact h.cap.1, h.cap.2.1, h.cap.2.2.2⟩
/-- Blocks stand, but that a row of one byte may be marked. -/
def ExtM (w w' : World) : Prop := w.heap.size ≤ w'.heap.size ∧ ∀ k, k < w.heap.size → w'.heap[k]? = w.heap[k]? ∨ ∃ c e fz fz', w.heap[k]? = some (.cells c e fz) ∧ c.size = 1 ∧ w'.heap[k]? = some (.cells c e fz')
theorem ExtM.refl (w : World) : ExtM w w := ⟨Nat.le_refl _, fun _ _ => .inl rfl⟩
theorem ExtM.below {w w' : World} (h : Below w.heap.size w w') : ExtM w w' := ⟨h.size, fun k hk => .inl (h.block k hk)⟩
theorem ExtM.mark {w : World} {g : Nat} {c : Array Value} {e : TypeId} {fz : Nat × Nat} (h : w.heap[g]? = some (.cells c e fz)) (hc : c.size = 1) : ExtM w (markW w g) := by
  refine ⟨Nat.le_of_eq (markW_size w g).symm, fun k hk => ?_⟩
  by_cases hkg : k = g
  · subst hkg
    refine .inr ⟨c, e, fz, ?_⟩
    unfold markW
    have hsh : w.shape? k = some (e, 1) := by unfold World.shape?; rw [h]; simp [hc]
    rw [hsh]
    simp only
    obtain ⟨f1, f2⟩ := fz
    exact ⟨if f1 = f2 then (1, 2) else (min f1 1, max f2 2), h, hc, by simp [World.freeze, Array.getElem?_modify, h]⟩
  · refine .inl ?_
    unfold markW
    split
    · simp [World.freeze, Array.getElem?_modify, Ne.symm hkg]
    · rfl
theorem ExtM.cell {w w' : World} (h : ExtM w w') {b o : Nat} (hb : b < w.heap.size) : w'.cell? ⟨b, o, none⟩ = w.cell? ⟨b, o, none⟩ := by
  unfold World.cell?
  rcases h.2 b hb with e | ⟨c, e, fz, fz', h1, _, h2⟩
  · rw [e]
  · simp only [h1, h2]
theorem ExtM.row {w w' : World} (h : ExtM w w') {g : Nat} {c : Array Value} {e : TypeId} (hg : ∃ fz, w.heap[g]? = some (.cells c e fz)) : ∃ fz, w'.heap[g]? = some (.cells c e fz) := by
  obtain ⟨fz, hg⟩ := hg
  rcases h.2 g (Array.getElem?_eq_some_iff.1 hg).1 with e | ⟨c', e', fz1, fz2, h1, _, h2⟩
  · exact ⟨fz, e.trans hg⟩
  · rw [hg] at h1; cases h1; exact ⟨_, h2⟩
theorem ExtM.hasS {w w' : World} (h : ExtM w w') {a : Option Addr} {l : List UInt8} (hs : HasS w a l) : HasS w' a l := by
  rcases hs with rfl | ⟨b, off, rfl, h1, h2, h3⟩
  · exact .inl rfl
  · refine .inr ⟨b, off, rfl, Nat.lt_of_lt_of_le h1 h.1, Nat.lt_of_lt_of_le h2 h.1, fun k c hk => ?_⟩
    obtain ⟨cs, e, h4⟩ := h3 k c hk
    exact ⟨cs, e, fun i v hi => by rw [h.cell h2]; exact h4 i v hi⟩
theorem ExtM.own {w w' : World} (h : ExtM w w') {base : Nat} {v : Value} {l : List UInt8} (hl : 1 < l.length) (hs : Own rByte (fun _ => True) w base 5 v l) : Own rByte (fun _ => True) w' base 5 v l := by
  obtain ⟨xs, h1, h2⟩ := hs
  refine ⟨xs, ⟨h1.1, h1.2.imp id ?_⟩, ?_⟩
  · rintro ⟨g, cap, cur, e1, e2, e3, e4, e5, e6, e7⟩
    refine ⟨g, cap, cur, e1, e2, ?_, e4, e5, e6, e7⟩
    rcases h.2 g (Array.getElem?_eq_some_iff.1 e3).1 with e | ⟨c, e, fz, fz', k1, k2, k3⟩
    · exact e.trans e3
    · rw [e3] at k1; cases k1
      rw [e6] at k2
      have : cap * 1 = 1 := k2
      omega
  · obtain ⟨css, k1, k2, k3⟩ := h2
    exact ⟨css, k1, k2, fun k c hk => by obtain ⟨cs, m1, m2⟩ := k3 k c hk; exact ⟨cs, m1, m2⟩⟩
theorem ExtM.sl5 {w w' : World} (h : ExtM w w') {a : Option Addr} {n c : Nat} {l : List UInt8} (hs : Sl5 w a n c l) : Sl5 w' a n c l := ⟨h.hasS hs.at', hs.len, hs.c1, hs.c2, hs.nil⟩
/-- What a head has ahead of its zeros. -/
def headA (t gen n : Nat) (x : BitVec 16) : List UInt8 := [[165], fourL t, fourL gen, fourL n, [lo x, hi x]].flatten
/-- The frame behind the region that puts a head's parts together. -/
def HeadMid (J : JF) (s : ByteArray) (js : JSt) (ao : Option Addr) (cap : Nat) (x : BitVec 16) (w1 : World) (e : Exit) (a : Act) (w' : World) : Prop :=
  e = .normal ∧ ∃ a8 k8 v9 v10 v17 v22 v26 v32 v33 v34, a = { tmps := #[.pointer (some ⟨J.b, 0, none⟩), .string s, undef, undef, .string ⟨#[]⟩, .int .u16 (w16 x), .slice a8 15 k8, .string s, .int .u16 (w16 x), v9, v10, .pointer (some ⟨J.b, 0, none⟩), .pointer (some ⟨J.b, 0, none⟩), .pointer (some ⟨J.b, 3, none⟩), .slice ao js.recs.length cap, .int .i64 js.recs.length, .int .u32 js.recs.length, v17, .pointer (some ⟨J.b, 0, none⟩), .pointer (some ⟨J.b, 0, none⟩), .pointer (some ⟨J.b, 2, none⟩), .int .u32 js.gen, v22, .string s, .int .i64 s.size, .int .u32 s.size, v26, .int .u16 (w16 x), .int .u8 (IntKind.u8.wrap (w16 x)), .int .u16 (w16 x), .int .u16 (w16 x / 256), .int .u8 (IntKind.u8.wrap (w16 x / 256)), v32, v33, v34, undef, undef, undef, undef, undef, undef, undef, undef], defers := [] } ∧
    Own rByte (fun _ => True) w' w1.heap.size 5 (.slice a8 15 k8) (headA js.recs.length js.gen s.size x) ∧ Below w1.heap.size w1 w'
theorem ExtM.rows {w w' : World} (h : ExtM w w') {a : Option Addr} {l : List (List UInt8)} (hs : SlAt rByte.slice (· < w.heap.size) w a l) : SlAt rByte.slice (· < w'.heap.size) w' a l := by
  rcases hs with rfl | ⟨b, off, rfl, h1, h2, h3⟩
  · exact .inl rfl
  · refine .inr ⟨b, off, rfl, Nat.lt_of_lt_of_le h1 h.1, Nat.lt_of_lt_of_le h2 h.1, fun k c hk => ?_⟩
    obtain ⟨cs, ⟨a2, c2, e1, e2, e3, e4, e5⟩, h4⟩ := h3 k c hk
    exact ⟨cs, ⟨a2, c2, e1, e2, e3, e4, h.hasS e5⟩, fun i v hi => by rw [h.cell h2]; exact h4 i v hi⟩
def headSlot (i : Nat) : Nat := if i = 26 then 6 else i + 9
theorem lt43 {i : Nat} (h : i < 43) : i = 0 ∨ i = 1 ∨ i = 2 ∨ i = 3 ∨ i = 4 ∨ i = 5 ∨ i = 6 ∨ i = 7 ∨ i = 8 ∨ i = 9 ∨ i = 10 ∨ i = 11 ∨ i = 12 ∨ i = 13 ∨ i = 14 ∨ i = 15 ∨ i = 16 ∨ i = 17 ∨ i = 18 ∨ i = 19 ∨ i = 20 ∨ i = 21 ∨ i = 22 ∨ i = 23 ∨ i = 24 ∨ i = 25 ∨ i = 26 ∨ i = 27 ∨ i = 28 ∨ i = 29 ∨ i = 30 ∨ i = 31 ∨ i = 32 ∨ i = 33 ∨ i = 34 ∨ i = 35 ∨ i = 36 ∨ i = 37 ∨ i = 38 ∨ i = 39 ∨ i = 40 ∨ i = 41 ∨ i = 42 := by omega
theorem act_ext {a : Act} {E : Array Value} (hs : a.tmps.size = E.size) (hd : a.defers = []) (h : ∀ t, t < E.size → a.tmps.getD t undef = E.getD t undef) : a = { tmps := E, defers := [] } := by
  obtain ⟨tm, df⟩ := a
  simp only at hs hd h
  subst hd
  congr 1
  apply Array.ext hs
  intro i h1 h2
  have := h i h2
  simpa [Array.getD_eq_getD_getElem?, h1, h2] using this
theorem HasS.row {w : World} {g : Nat} {fz : Nat × Nat} (h : w.heap[g]? = some (.cells #[.int .u8 165] 5 fz)) : HasS w (some ⟨g, 0, none⟩) [165] :=
  bytes_at (Array.getElem?_eq_some_iff.1 h).1 (fun k c hk => by
    match k, hk with
    | 0, hk => cases hk; simp [World.cell?, h]
    | k + 1, hk => simp at hk)
theorem lt27 {i : Nat} (h : i < 27) : i = 0 ∨ i = 1 ∨ i = 2 ∨ i = 3 ∨ i = 4 ∨ i = 5 ∨ i = 6 ∨ i = 7 ∨ i = 8 ∨ i = 9 ∨ i = 10 ∨ i = 11 ∨ i = 12 ∨ i = 13 ∨ i = 14 ∨ i = 15 ∨ i = 16 ∨ i = 17 ∨ i = 18 ∨ i = 19 ∨ i = 20 ∨ i = 21 ∨ i = 22 ∨ i = 23 ∨ i = 24 ∨ i = 25 ∨ i = 26 := by omega
/-- What each operation of a head's region leaves. -/
def HeadR (J : JF) (s : ByteArray) (js : JSt) (ao : Option Addr) (cap : Nat) (x : BitVec 16) (w1 : World) (i : Nat) (v : Value) (w : World) : Prop :=
  match i with
  | 0 | 1 => ∃ g, v = .slice (some ⟨g, 0, none⟩) 1 1 ∧ w1.heap.size ≤ g ∧ ∃ fz, w.heap[g]? = some (.cells #[.int .u8 165] 5 fz)
  | 2 | 3 | 9 | 10 => v = .pointer (some ⟨J.b, 0, none⟩)
  | 4 => v = .pointer (some ⟨J.b, 3, none⟩)
  | 5 => v = .slice ao js.recs.length cap
  | 6 => v = .int .i64 js.recs.length
  | 7 => v = .int .u32 js.recs.length
  | 8 => ∃ a k, v = .slice a 4 k ∧ Sl5 w a 4 k (fourL js.recs.length)
  | 11 => v = .pointer (some ⟨J.b, 2, none⟩)
  | 12 => v = .int .u32 js.gen
  | 13 => ∃ a k, v = .slice a 4 k ∧ Sl5 w a 4 k (fourL js.gen)
  | 14 => v = .string s
  | 15 => v = .int .i64 s.size
  | 16 => v = .int .u32 s.size
  | 17 => ∃ a k, v = .slice a 4 k ∧ Sl5 w a 4 k (fourL s.size)
  | 18 | 20 => v = .int .u16 (w16 x)
  | 19 => v = .int .u8 (IntKind.u8.wrap (w16 x))
  | 21 => v = .int .u16 (w16 x / 256)
  | 22 => v = .int .u8 (IntKind.u8.wrap (w16 x / 256))
  | 23 => ∃ a, v = .slice a 2 2 ∧ Sl5 w a 2 2 [lo x, hi x]
  | 24 => ∃ a, v = .slice a 5 5 ∧ SlAt rByte.slice (· < w.heap.size) w a [[165], fourL js.recs.length, fourL js.gen, fourL s.size, [lo x, hi x]]
  | 25 | 26 => ∃ a k, v = .slice a 15 k ∧ Own rByte (fun _ => True) w w1.heap.size 5 (.slice a 15 k) (headA js.recs.length js.gen s.size x)
  | _ => False
set_option maxHeartbeats 8000000 in
set_option maxRecDepth 100000 in
theorem head_any {base : Nat} {w : World} {F : Fp} {st : St} {J : JF} {js : JSt} (h : JRaw base w F st J js) (s : ByteArray) (hs : s.size ≤ 1048576) :
    Calls Tryz.prog 62 #[.pointer (some ⟨J.b, 0, none⟩), .string s] w (BelowPost (.string (headB js.recs.length js.gen s)) w) := by
  have HC := Lib.hid (of_any s w (by unfold maxLen; omega))
  obtain ⟨c0, c1, c2, c3, c4, c5⟩ := h.cells
  obtain ⟨ao, cap, elv⟩ := h.form
  obtain ⟨b1, b2, b3⟩ := h.bd
  have hg := h.gen
  have hlt := h.lt
  rw [elv] at c3
  clear h elv c0 c1 c4 c5
  obtain ⟨x, hx⟩ : ∃ x, crc s.data.toList = x := ⟨_, rfl⟩
  go_enter Tryz.func62, Tryz.ntmps62
  go_wp2_with fail
  refine HC.out.mono ?_
  rintro e w1 ⟨rfl, hb1⟩
  go_wp2_with fail
  have hlt1 : J.b < w1.heap.size := Nat.lt_of_lt_of_le hlt hb1.size
  have HK := Lib.hid (fun wx (h : Below w1.heap.size w1 wx) => show Below w1.heap.size w1 wx ∧ wx.cell? ⟨J.b, 3, none⟩ = some (.slice ao js.recs.length cap) ∧ wx.cell? ⟨J.b, 2, none⟩ = some (.int .u32 js.gen) from
    ⟨h, (h.cell (p := ⟨J.b, 3, none⟩) hlt1).trans ((hb1.cell (p := ⟨J.b, 3, none⟩) hlt).trans c3), (h.cell (p := ⟨J.b, 2, none⟩) hlt1).trans ((hb1.cell (p := ⟨J.b, 2, none⟩) hlt).trans c2)⟩)
  have hb0 := Below.refl w1.heap.size w1
  have u1 : IntKind.u32.wrap (js.recs.length : Int) = js.recs.length := by rw [IntKind.wrap_u32]; omega
  have u2 : IntKind.u32.wrap (s.size : Int) = s.size := by rw [IntKind.wrap_u32]; omega
  have z1 : s.size ≤ 9223372036854775807 := by omega
  clear c2 c3
  have H1 := Lib.hid (fun w => four_any js.recs.length (by omega) w)
  have H2 := Lib.hid (fun w => four_any js.gen (by omega) w)
  have H3 := Lib.hid (fun w => four_any s.size (by omega) w)
  have hcv : ∀ g n c W, (convert 83 83 (.slice (some ⟨g, 0, none⟩) n c)).run Tryz.prog W = .ok (.slice (some ⟨g, 0, none⟩) n c) (markW W g) := fun g n c W => run_conv_bytes W g n c
  have HMid : ∀ e a w', HeadMid J s js ao cap x w1 e a w' → HeadMid J s js ao cap x w1 e a w' := fun _ _ _ h => h
  refine Code.wp_mono (Q := HeadMid J s js ao cap x w1) ?imp ?reg
  case imp =>
    rintro e a w' ⟨rfl, a8, k8, v9, v10, v17, v22, v26, v32, v33, v34, rfl, hO8, hb8⟩
    have hL : (headA js.recs.length js.gen s.size x).length = 15 := by simp [headA, fourL]
    obtain ⟨a9, k9, w9, hr, hS9, hb9⟩ := append_zeros w' w1.heap.size a8 15 k8 _ hO8 hb8.size 48 (by omega) (by rw [hL]; omega) (by rw [hL]; omega)
    rw [hL] at hr
    have hl63 : (headA js.recs.length js.gen s.size x ++ List.replicate 48 0).length = 63 := by simp [hL]
    have hcv9 := conv_text (c := k9) hS9 (by omega)
    rw [hl63] at hcv9
    have HE := Lib.hid (show (⟨(headA js.recs.length js.gen s.size x ++ List.replicate 48 0).toArray⟩ : ByteArray) ++ ⟨#[90]⟩ = headB js.recs.length js.gen s by
      subst hx
      unfold headB headL headA twoL
      apply ByteArray.ext
      simp)
    obtain ⟨t63, ht⟩ : ∃ t63, (⟨(headA js.recs.length js.gen s.size x ++ List.replicate 48 0).toArray⟩ : ByteArray) = t63 := ⟨_, rfl⟩
    have hsz : t63.size = 63 := by rw [← ht]; exact hl63
    have hcc : ¬ 9223372036854775807 < t63.size + 1 := by omega
    rw [ht] at hcv9 HE
    clear HMid HK H1 H2 H3 hcv hS9 hO8 ht hl63 hL
    go_wp2_with (first | (at_builtin; refine Lib.wpList_append_run _ rfl _ _ 83 3 rfl _ _ rfl rfl _ _ hr ?_))
    go_ret
    exact ⟨congrArg (fun t => Ending.returned (.string t)) HE.out, hb1.trans ((hb8.trans hb9).mono hb1.size)⟩
  case reg =>
    clear HMid hb1 HC
    refine wp_region_each (by kernel_rfl) (fun w => Below w1.heap.size w1 w ∧ w.cell? ⟨J.b, 3, none⟩ = some (.slice ao js.recs.length cap) ∧ w.cell? ⟨J.b, 2, none⟩ = some (.int .u32 js.gen)) ExtM (HeadR J s js ao cap x w1) headSlot ?hd ?inj ?hord ?mono ?hS0 ?hop ?hfin
    case inj => intro i j hi hj; simp at hi hj; unfold headSlot; split <;> split <;> intro h <;> omega
    case hS0 => exact HK.out _ hb0.drew
    case hd =>
      intro i o ho
      have hi : i < 27 := (Array.getElem?_eq_some_iff.1 ho).1
      rcases lt27 hi with rfl | rfl | rfl | rfl | rfl | rfl | rfl | rfl | rfl | rfl | rfl | rfl | rfl | rfl | rfl | rfl | rfl | rfl | rfl | rfl | rfl | rfl | rfl | rfl | rfl | rfl | rfl
      all_goals (cases ho; exact ⟨rfl, rfl, by show headSlot _ < 43; decide⟩)
    case hord =>
      intro i o ho e he
      have hi : i < 27 := (Array.getElem?_eq_some_iff.1 ho).1
      rcases lt27 hi with rfl | rfl | rfl | rfl | rfl | rfl | rfl | rfl | rfl | rfl | rfl | rfl | rfl | rfl | rfl | rfl | rfl | rfl | rfl | rfl | rfl | rfl | rfl | rfl | rfl | rfl | rfl
      all_goals (cases ho; exact all_before (by kernel_rfl) e he)
    case mono =>
      intro i v w w' h hE
      by_cases hi : i < 27
      · rcases lt27 hi with rfl | rfl | rfl | rfl | rfl | rfl | rfl | rfl | rfl | rfl | rfl | rfl | rfl | rfl | rfl | rfl | rfl | rfl | rfl | rfl | rfl | rfl | rfl | rfl | rfl | rfl | rfl
        all_goals first
          | exact h
          | (obtain ⟨g, e1, e2, e3⟩ := h; exact ⟨g, e1, e2, hE.row e3⟩)
          | (obtain ⟨a, k, e1, e2⟩ := h; exact ⟨a, k, e1, hE.sl5 e2⟩)
          | (obtain ⟨a, e1, e2⟩ := h; exact ⟨a, e1, hE.sl5 e2⟩)
          | (obtain ⟨a, e1, e2⟩ := h; exact ⟨a, e1, hE.rows e2⟩)
          | (obtain ⟨a, k, e1, e2⟩ := h; exact ⟨a, k, e1, hE.own (by simp [headA, fourL]) e2⟩)
      · exfalso
        obtain ⟨k, rfl⟩ : ∃ k, i = k + 27 := ⟨i - 27, by omega⟩
        exact h
    case hfin =>
      intro a w hS hdf htm hr hR
      obtain ⟨a8, k8, e6, hO⟩ : ∃ p k, a.tmps.getD 6 undef = Value.slice p 15 k ∧ Own rByte (fun _ => True) w w1.heap.size 5 (.slice p 15 k) (headA js.recs.length js.gen s.size x) := hR 26 (by decide)
      refine ⟨rfl, a8, k8, a.tmps.getD 9 undef, a.tmps.getD 10 undef, a.tmps.getD 17 undef, a.tmps.getD 22 undef, a.tmps.getD 26 undef, a.tmps.getD 32 undef, a.tmps.getD 33 undef, a.tmps.getD 34 undef, act_ext htm hdf (fun t ht => ?_), hO, hS.1⟩
      have ht : t < 43 := ht
      rcases lt43 ht with rfl | rfl | rfl | rfl | rfl | rfl | rfl | rfl | rfl | rfl | rfl | rfl | rfl | rfl | rfl | rfl | rfl | rfl | rfl | rfl | rfl | rfl | rfl | rfl | rfl | rfl | rfl | rfl | rfl | rfl | rfl | rfl | rfl | rfl | rfl | rfl | rfl | rfl | rfl | rfl | rfl | rfl | rfl
      all_goals first
        | rfl
        | exact e6
        | exact (hr _ (by intro j hj; simp at hj; unfold headSlot; split <;> omega)).trans rfl
        | exact hR 2 (by decide) | exact hR 3 (by decide) | exact hR 4 (by decide) | exact hR 5 (by decide) | exact hR 6 (by decide) | exact hR 7 (by decide) | exact hR 9 (by decide) | exact hR 10 (by decide) | exact hR 11 (by decide) | exact hR 12 (by decide) | exact hR 14 (by decide) | exact hR 15 (by decide) | exact hR 16 (by decide) | exact hR 18 (by decide) | exact hR 19 (by decide) | exact hR 20 (by decide) | exact hR 21 (by decide) | exact hR 22 (by decide)
    case hop =>
      intro i o ho a w hS hr he K hK
      have hi : i < 27 := (Array.getElem?_eq_some_iff.1 ho).1
      have h0 : a.tmps[0]?.getD undef = .pointer (some ⟨J.b, 0, none⟩) := by have := hr 0 (by intro j hj; simp at hj; unfold headSlot; split <;> omega); simpa using this
      have h1 : a.tmps[1]?.getD undef = .string s := by have := hr 1 (by intro j hj; simp at hj; unfold headSlot; split <;> omega); simpa using this
      have h5 : a.tmps[5]?.getD undef = .int .u16 (w16 x) := by have := hr 5 (by intro j hj; simp at hj; unfold headSlot; split <;> omega); simpa using this
      obtain ⟨hS1, hS2, hS3⟩ := hS
      clear hr
      rcases lt27 hi with rfl | rfl | rfl | rfl | rfl | rfl | rfl | rfl | rfl | rfl | rfl | rfl | rfl | rfl | rfl | rfl | rfl | rfl | rfl | rfl | rfl | rfl | rfl | rfl | rfl | rfl | rfl
      all_goals (simp only [List.getElem?_toArray, List.getElem?_cons_succ, List.getElem?_cons_zero, Option.some.injEq] at ho; subst ho; simp [headSlot, HeadR, Region.binds] at he)
      all_goals (try (simp [go_sem, Oper.wp, execOp, Act.eval, he, h0, h1, h5, hS2, hS3, u1, u2]; exact hK _ _ ⟨hS1, hS2, hS3⟩ (ExtM.refl _) rfl))
      · simp [go_sem, Oper.wp, execOp, Act.eval]
        exact hK _ _ (HK.out _ (hS1.alloc hS1.size _)) (ExtM.below ((Below.refl _ _).alloc (Nat.le_refl _) _)) ⟨w.heap.size, rfl, hS1.size, (0, 0), heap_alloc_new _ _⟩
      · obtain ⟨g, he, hg, f1, f2, hrow⟩ := he
        simp [go_sem, Oper.wp, execOp, Act.eval, he, hcv]
        exact hK _ _ (HK.out _ (below_mark hS1 hg)) (ExtM.mark hrow rfl) ⟨g, rfl, hg, (ExtM.mark hrow rfl).row ⟨_, hrow⟩⟩
      · simp [go_sem, Oper.wp, execOp, Act.eval, he]
        refine (H1.out w).mono ?_
        rintro e w' ⟨v, rfl, hO, hb⟩
        obtain ⟨a5, k5, rfl⟩ := hO.form
        exact hK _ _ (HK.out _ (chain hS1 hb)) (ExtM.below hb) ⟨a5, k5, rfl, sl5_of hO id⟩
      · simp [go_sem, Oper.wp, execOp, Act.eval, he.1]
        refine (H2.out w).mono ?_
        rintro e w' ⟨v, rfl, hO, hb⟩
        obtain ⟨a5, k5, rfl⟩ := hO.form
        exact hK _ _ (HK.out _ (chain hS1 hb)) (ExtM.below hb) ⟨a5, k5, rfl, sl5_of hO id⟩
      · simp [go_sem, Oper.wp, execOp, Act.eval, he.1]
        refine (H3.out w).mono ?_
        rintro e w' ⟨v, rfl, hO, hb⟩
        obtain ⟨a5, k5, rfl⟩ := hO.form
        exact hK _ _ (HK.out _ (chain hS1 hb)) (ExtM.below hb) ⟨a5, k5, rfl, sl5_of hO id⟩
      · obtain ⟨e1, e2⟩ := he
        simp [go_sem, Oper.wp, execOp, Act.eval, e1, e2]
        exact hK _ _ (HK.out _ (hS1.alloc hS1.size _)) (ExtM.below ((Below.refl _ _).alloc (Nat.le_refl _) _)) ⟨_, rfl, HasS.two _ _ _ rfl, rfl, Nat.le_refl 2, two_max, some_nil⟩
      · obtain ⟨⟨g, e0, hg, f1, f2, hrow⟩, ⟨a1, k1, e1, s1⟩, ⟨a2, k2, e2, s2⟩, ⟨a3, k3, e3, s3⟩, ⟨a4, e4, s4⟩⟩ := he
        simp [go_sem, Oper.wp, execOp, Act.eval, e0, e1, e2, e3, e4]
        exact hK _ _ (HK.out _ (hS1.alloc hS1.size _)) (ExtM.below ((Below.refl _ _).alloc (Nat.le_refl _) _)) ⟨_, rfl, row5 w _ _ _ _ _ _ _ _ _ _ _ _ _ _ _ _ _ _ _ _ ⟨HasS.row hrow, rfl, Nat.le_refl 1, one_max, some_nil⟩ s1 s2 s3 s4⟩
      · obtain ⟨⟨a0', e0, r0⟩, _⟩ := he
        simp [go_sem, Oper.wp, execOp, Act.eval, e0]
        refine (concat_any a0' 5 [[165], fourL js.recs.length, fourL js.gen, fourL s.size, [lo x, Crc.hi x]] w r0 (by simp) (by simp [sumN2, fourL]) (by simp [sumN2, fourL])).mono ?_
        rintro e w' ⟨v, rfl, hO, hb⟩
        obtain ⟨a8, k8, rfl⟩ := hO.form
        exact hK _ _ (HK.out _ (chain hS1 hb)) (ExtM.below hb) ⟨a8, k8, rfl, hO.rebase hS1.size⟩
      · obtain ⟨⟨a8, k8, e0, hO⟩, _⟩ := he
        simp [go_sem, Oper.wp, execOp, Act.eval, e0]
        exact hK _ _ ⟨hS1, hS2, hS3⟩ (ExtM.refl _) ⟨a8, k8, rfl, hO⟩
end Go.Proofs.YtdebfnlnpfienaaGreatDoor
