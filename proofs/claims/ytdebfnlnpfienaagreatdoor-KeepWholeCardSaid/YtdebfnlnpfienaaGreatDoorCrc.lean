/- The register of sixteen bits. -/
import Derived.Laws.Entries
import Derived.Laws.BitsAllLaws
import Derived.Laws.IdiomStrings
import Derived.Laws.NewBlocks
namespace Crc

def stepB (x : BitVec 16) (b : Bool) : BitVec 16 := if (x.msb ^^ b) = true then (x <<< 1) ^^^ 0x1021#16 else x <<< 1

def feed (x : BitVec 16) (l : List Bool) : BitVec 16 := l.foldl stepB x

/-- The bits of a byte, the highest first. -/
def bitsOf (c : UInt8) : List Bool := (List.range 8).map fun j => c.toNat.testBit (7 - j)

def crc (s : List UInt8) : BitVec 16 := feed 0xffff#16 (s.flatMap bitsOf)

theorem xor_swap (a b c d : BitVec 16) : (a ^^^ b) ^^^ (c ^^^ d) = (a ^^^ c) ^^^ (b ^^^ d) := by
  apply BitVec.eq_of_getLsbD_eq; intro i _; simp only [BitVec.getLsbD_xor]; cases a.getLsbD i <;> cases b.getLsbD i <;> cases c.getLsbD i <;> cases d.getLsbD i <;> rfl

theorem stepB_eq (x : BitVec 16) (b : Bool) : stepB x b = (x <<< 1) ^^^ (if (x.msb ^^ b) = true then 0x1021#16 else 0#16) := by
  unfold stepB; split <;> simp

theorem step_lin (x y : BitVec 16) (b c : Bool) : stepB (x ^^^ y) (b ^^ c) = stepB x b ^^^ stepB y c := by
  simp only [stepB_eq, BitVec.msb_xor, BitVec.shiftLeft_xor_distrib]
  rw [xor_swap]
  congr 1
  cases x.msb <;> cases y.msb <;> cases b <;> cases c <;> rfl

theorem feed_lin (l m : List Bool) : ∀ (x y : BitVec 16), l.length = m.length → feed (x ^^^ y) (List.zipWith (· ^^ ·) l m) = feed x l ^^^ feed y m := by
  induction l generalizing m with
  | nil => intro x y h; cases m with | nil => rfl | cons => simp at h
  | cons b l ih =>
    intro x y h
    cases m with
    | nil => simp at h
    | cons c m =>
      simp only [List.zipWith_cons_cons, feed, List.foldl_cons]
      rw [step_lin]
      exact ih m _ _ (by simpa using h)

/-- Feeding the bits of y through the register x. -/
theorem iter_eq (n : Nat) : ∀ (x y : BitVec 16), (Nat.repeat (fun x => stepB x false) n (x ^^^ y)) = feed x ((List.range n).map fun j => (y <<< j).msb) ^^^ (y <<< n) := by
  induction n with
  | zero => intro x y; simp [Nat.repeat, feed]
  | succ n ih =>
    intro x y
    show stepB (Nat.repeat _ n (x ^^^ y)) false = _
    rw [ih, List.range_succ, List.map_append]
    simp only [feed, List.foldl_append, List.map_cons, List.map_nil, List.foldl_cons, List.foldl_nil]
    generalize List.foldl stepB x _ = z
    have h := step_lin z (y <<< n) ((y <<< n).msb) ((y <<< n).msb)
    simp only [Bool.xor_self] at h
    rw [h]
    congr 1
    unfold stepB
    simp [BitVec.shiftLeft_add]

theorem bitsOf_eq (c : UInt8) : bitsOf c = (List.range 8).map fun j => ((BitVec.ofNat 16 c.toNat <<< 8) <<< j).msb := by
  unfold bitsOf
  apply List.map_congr_left
  intro j hj
  have hj : j < 8 := by simpa using hj
  rw [← BitVec.shiftLeft_add, BitVec.msb_shiftLeft]
  unfold BitVec.getMsbD
  rw [show 16 - 1 - (8 + j) = 7 - j by omega, BitVec.getLsbD_ofNat, decide_eq_true (show 8 + j < 16 by omega), decide_eq_true (show 7 - j < 16 by omega)]
  simp

theorem byte_eq (x : BitVec 16) (c : UInt8) : (Nat.repeat (fun x => stepB x false) 8 (x ^^^ (BitVec.ofNat 16 c.toNat <<< 8))) = feed x (bitsOf c) := by
  rw [iter_eq, bitsOf_eq]
  have : (BitVec.ofNat 16 c.toNat <<< 8) <<< 8 = 0#16 := by rw [← BitVec.shiftLeft_add]; simp
  rw [this]; simp


/-! The machine's numbers. -/
open Go
def w16 (x : BitVec 16) : Int := (x.toNat : Int)

theorem u16_bd (x : BitVec 16) : 0 ≤ w16 x ∧ w16 x < 65536 := by unfold w16; have := x.isLt; omega
theorem ofInt_u16 (x : BitVec 16) : BitVec.ofInt 16 (w16 x) = x := by
  unfold w16; apply BitVec.eq_of_toNat_eq; simp
theorem xor_u16 (x y : BitVec 16) : bits .xor .u16 (w16 x) (w16 y) = w16 (x ^^^ y) := by
  unfold w16
  rw [u16_xor_nat _ _ x.isLt y.isLt, BitVec.toNat_xor]
theorem xor_poly (x : BitVec 16) : bits .xor .u16 (w16 x) 4129 = w16 (x ^^^ 0x1021#16) := xor_u16 x 0x1021#16
theorem and_top (x : BitVec 16) : bits .and .u16 (w16 x) 32768 = if x.msb then 32768 else 0 := by
  have h2 : x &&& 32768#16 = if x.msb then 32768#16 else 0#16 := by
    apply BitVec.eq_of_getLsbD_eq
    intro i hi
    have h3 : (32768#16).getLsbD i = decide (i = 15) := by
      have : ∀ i, i < 16 → (32768#16).getLsbD i = decide (i = 15) := by decide
      exact this i hi
    rw [BitVec.getLsbD_and, h3]
    by_cases h : i = 15
    · subst h; rw [BitVec.msb_eq_getLsbD_last]; cases x.getLsbD 15 <;> simp
    · simp only [h, decide_false, Bool.and_false]; split <;> simp [h3, h]
  have h5 : (x &&& 32768#16).toNat = x.toNat &&& 32768 := by rw [BitVec.toNat_and]; rfl
  unfold w16
  rw [show (32768 : Int) = ((32768 : Nat) : Int) from rfl, u16_and_nat _ _ x.isLt (by decide), ← h5, h2]
  cases x.msb <;> rfl
theorem shl_u16 (x : BitVec 16) (n : Nat) : IntKind.u16.wrap (w16 x * 2 ^ n) = w16 (x <<< n) := by
  simp only [IntKind.wrap, IntKind.bits, IntKind.signed]
  unfold w16
  simp [Nat.shiftLeft_eq]
theorem shl1_u16 (x : BitVec 16) : IntKind.u16.wrap (w16 x * 2) = w16 (x <<< 1) := shl_u16 x 1
theorem byte_u16 (c : UInt8) : IntKind.u16.wrap (c.toNat : Int) = w16 (BitVec.ofNat 16 c.toNat) := by
  simp only [IntKind.wrap, IntKind.bits, IntKind.signed]
  unfold w16
  have := c.toNat_lt
  simp; omega
theorem shl8_u16 (x : BitVec 16) : IntKind.u16.wrap (w16 x * 256) = w16 (x <<< 8) := shl_u16 x 8
theorem step0_true (x : BitVec 16) (h : x.msb = true) : bits .xor .u16 (IntKind.u16.wrap (w16 x * 2)) 4129 = w16 (stepB x false) := by
  rw [shl1_u16, xor_poly]; unfold stepB; simp [h]
theorem step0_false (x : BitVec 16) (h : x.msb = false) : IntKind.u16.wrap (w16 x * 2) = w16 (stepB x false) := by
  rw [shl1_u16]; unfold stepB; simp [h]

theorem top_true (x : BitVec 16) (h : (bits .and .u16 (w16 x) 32768 != 0) = true) : x.msb = true := by
  rw [and_top] at h; cases hx : x.msb <;> simp_all
theorem top_false (x : BitVec 16) (h : (bits .and .u16 (w16 x) 32768 != 0) = false) : x.msb = false := by
  rw [and_top] at h; cases hx : x.msb <;> simp_all
def it0 (j : Nat) (x : BitVec 16) : BitVec 16 := Nat.repeat (fun x => stepB x false) j x
theorem it0_succ (j : Nat) (x : BitVec 16) : it0 (j + 1) x = stepB (it0 j x) false := rfl
theorem it0_zero (x : BitVec 16) (c : UInt8) : bits .xor .u16 (w16 x) (IntKind.u16.wrap (IntKind.u16.wrap (c.toNat : Int) * 256)) = w16 (it0 0 (x ^^^ (BitVec.ofNat 16 c.toNat <<< 8))) := by
  rw [byte_u16, shl8_u16, xor_u16]; rfl
theorem it0_byte (x : BitVec 16) (c : UInt8) : it0 8 (x ^^^ (BitVec.ofNat 16 c.toNat <<< 8)) = feed x (bitsOf c) := byte_eq x c

/-- The register behind the first k bytes. -/
def reg (s : ByteArray) (k : Nat) : BitVec 16 := feed 0xffff#16 ((s.data.toList.take k).flatMap bitsOf)
theorem reg_zero (s : ByteArray) : reg s 0 = 0xffff#16 := rfl
theorem reg_succ (s : ByteArray) (k : Nat) (h : k < s.size) : reg s (k + 1) = feed (reg s k) (bitsOf s[k]) := by
  unfold reg
  rw [List.take_succ_eq_append_getElem (by simpa using h)]
  simp only [feed, List.flatMap_append, List.foldl_append, List.flatMap_cons, List.flatMap_nil, List.append_nil]
  rfl
theorem reg_all (s : ByteArray) (k : Nat) (h : s.size ≤ k) : reg s k = crc s.data.toList := by
  unfold reg crc
  rw [List.take_of_length_le (by simpa using h)]

theorem bit_ref (c : UInt8) (j : Nat) : (IntKind.u16.wrap ((c.toNat : Int) / 2 ^ (7 - j))).tmod 2 = if c.toNat.testBit (7 - j) then 1 else 0 := by
  have h1 := c.toNat_lt
  have h2 : ((c.toNat : Int) / 2 ^ (7 - j)) = ((c.toNat / 2 ^ (7 - j) : Nat) : Int) := by push_cast; rfl
  have h3 : c.toNat / 2 ^ (7 - j) < 65536 := Nat.lt_of_le_of_lt (Nat.div_le_self _ _) (by omega)
  rw [h2, IntKind.wrap_u16, Nat.testBit_eq_decide_div_mod_eq]
  generalize c.toNat / 2 ^ (7 - j) = q at *
  have h4 : ((q : Int) % 65536) = (q : Int) := by omega
  rw [h4, show (2 : Int) = ((2 : Nat) : Int) from rfl, ← Int.ofNat_tmod]
  by_cases h : q % 2 = 1
  · simp [h]
  · have : q % 2 = 0 := by omega
    simp [this]
theorem top_ref (x : BitVec 16) : IntKind.u16.wrap ((w16 x).tdiv 32768) = if x.msb then 1 else 0 := by
  unfold w16
  rw [show (32768 : Int) = ((32768 : Nat) : Int) from rfl, ← Int.ofNat_tdiv, IntKind.wrap_u16, BitVec.msb_eq_decide]
  have := x.isLt
  by_cases h : 2 ^ (16 - 1) ≤ x.toNat
  · simp only [h, decide_true, if_true]; omega
  · simp only [h, decide_false]; simp at h ⊢; omega
theorem take_bits (c : UInt8) (j : Nat) (hj : j < 8) : (bitsOf c).take (j + 1) = (bitsOf c).take j ++ [c.toNat.testBit (7 - j)] := by
  rw [List.take_succ_eq_append_getElem (by simp [bitsOf]; omega)]
  simp [bitsOf]
theorem feed_snoc (x : BitVec 16) (l : List Bool) (b : Bool) : feed x (l ++ [b]) = stepB (feed x l) b := by simp [feed]
theorem ref_true (x : BitVec 16) (c : UInt8) (j : Nat) (hj : j < 8)
    (h : ((IntKind.u16.wrap ((c.toNat : Int) / 2 ^ (7 - j))).tmod 2 != IntKind.u16.wrap ((w16 (feed x ((bitsOf c).take j))).tdiv 32768)) = true) :
    bits .xor .u16 (IntKind.u16.wrap (w16 (feed x ((bitsOf c).take j)) * 2)) 4129 = w16 (feed x ((bitsOf c).take (j + 1))) := by
  rw [take_bits c j hj, feed_snoc]
  generalize feed x ((bitsOf c).take j) = y at *
  rw [bit_ref c j, top_ref] at h
  rw [shl1_u16, xor_poly]
  unfold stepB
  cases hm : y.msb <;> cases hb : c.toNat.testBit (7 - j) <;> simp_all
theorem ref_false (x : BitVec 16) (c : UInt8) (j : Nat) (hj : j < 8)
    (h : ((IntKind.u16.wrap ((c.toNat : Int) / 2 ^ (7 - j))).tmod 2 != IntKind.u16.wrap ((w16 (feed x ((bitsOf c).take j))).tdiv 32768)) = false) :
    IntKind.u16.wrap (w16 (feed x ((bitsOf c).take j)) * 2) = w16 (feed x ((bitsOf c).take (j + 1))) := by
  rw [take_bits c j hj, feed_snoc]
  generalize feed x ((bitsOf c).take j) = y at *
  rw [bit_ref c j, top_ref] at h
  rw [shl1_u16]
  unfold stepB
  cases hm : y.msb <;> cases hb : c.toNat.testBit (7 - j) <;> simp_all

/-! The two bytes of a sum. -/
def hi (x : BitVec 16) : UInt8 := UInt8.ofNat (x.toNat / 256)
def lo (x : BitVec 16) : UInt8 := UInt8.ofNat x.toNat
def tail (x : BitVec 16) : List UInt8 := [hi x, lo x]
theorem hi_w (x : BitVec 16) : w16 x / 256 % 256 = ((hi x).toNat : Int) := by
  unfold w16 hi; have := x.isLt; simp
theorem lo_w (x : BitVec 16) : w16 x % 256 = ((lo x).toNat : Int) := by
  unfold w16 lo; have := x.isLt; simp
theorem hi_ref (x : BitVec 16) : IntKind.u16.wrap ((w16 x).tdiv 256) % 256 = ((hi x).toNat : Int) := by
  rw [← hi_w]; unfold w16
  rw [show (256 : Int) = ((256 : Nat) : Int) from rfl, ← Int.ofNat_tdiv, IntKind.wrap_u16]
  have := x.isLt; omega
theorem lo_ref (x : BitVec 16) : (w16 x).tmod 256 % 256 = ((lo x).toNat : Int) := by
  rw [← lo_w]; unfold w16
  rw [show (256 : Int) = ((256 : Nat) : Int) from rfl, ← Int.ofNat_tmod]
  have := x.isLt; omega
theorem two_back {P : Program} (w : World) (src dst e : TypeId) (hs : P.underlying src = some (.slice e)) (he : P.underlying e = some (.int .u8)) (hd : P.underlying dst = some .string)
    (n m : Int) (a b : UInt8) (hn : n = (a.toNat : Int)) (hm : m = (b.toNat : Int)) :
    (convert src dst (.slice (some ⟨w.heap.size, 0, none⟩) 2 2)).run P (w.alloc (.cells #[.int .u8 n, .int .u8 m] e)) = .ok (.string ⟨#[a, b]⟩) (w.alloc (.cells #[.int .u8 n, .int .u8 m] e)) := by
  refine run_convert_bytes_back (w.alloc _) src dst e ⟨w.heap.size, 0, none⟩ 2 [a, b] hs he hd ?_
  intro j hj
  have hj : j < 2 := by simpa using hj
  rw [Addr.add_lit]
  simp only [World.cell?, heap_alloc_new, Nat.zero_add]
  match j, hj with
  | 0, _ => simp [hn]
  | 1, _ => simp [hm]

end Crc
