/- slices.Reverse at bytes; mbint.Write; a root; what may be. -/
import Derived.Test.YtdebfnlnpfienaaGreatDoorKeB
import Derived.Test.YtdebfnlnpfienaaGreatDoorJnHead
import Derived.Shelf.RegionOpenPlain
import Derived.Deep.LoopGhost
import Derived.Lib.Walk
import Derived.Sort.WalkB12
import Derived.Lib.SlicesMore
import Derived.Test.YtdebfnlnpfienaaGreatDoorBKg
import Derived.Laws.EntriesVeiled
import Derived.StillTailTactics
import Derived.Test.YtdebfnlnpfienaaGreatDoorShelf
import Derived.Test.YtdebfnlnpfienaaGreatDoorJnE
import Derived.Shelf.SlIter.Nil
import Derived.Shelf.SortM.Plain
import Derived.Shelf.SortM.SortNone
namespace Go.Proofs.YtdebfnlnpfienaaGreatDoor
open Go.Shelf Go.RowKit Go.Lib Go.Sort Lift
set_option linter.unusedSimpArgs false
set_option linter.unusedVariables false

def enc8 (x : UInt8) : Value := .int .u8 (x.toNat : Int)
set_option maxHeartbeats 1600000 in
set_option maxRecDepth 100000 in
theorem rev_any (blk off cap : Nat) (d : Array UInt8) (w : World) (hH : Holds enc8 w blk off d) (hsz : d.size ≤ 1000) :
    Calls Tryz.prog 83 #[.slice (some ⟨blk, off, none⟩) d.size cap] w fun e w' => e = .returned (.tuple #[]) ∧ ∃ n, w' = putRow enc8 (Sort.ahead w n) blk off d.reverse := by
  go_enter Tryz.func83, Tryz.ntmps83
  go_wp2
  go_loopg [2, 3] d.size (fun k s2 s3 wr => ∃ (i jn : Nat) (jz : Int) (dk : Array UInt8) (n : Nat), s2 = .int .i64 i ∧ s3 = .int .i64 jz ∧ ((i : Int) < jz → jz = jn ∧ jn < d.size) ∧ (¬ (i : Int) < jz → ¬ i < jn) ∧ jn - i ≤ k ∧
    dk.size = d.size ∧ wr = putRow enc8 (Sort.ahead w n) blk off dk ∧ reverseLoop i jn dk = reverseLoop 0 (d.size - 1) d)
  case atStart => exact ⟨0, d.size - 1, (d.size : Int) - 1, d, 0, rfl, rfl, fun h => ⟨by omega, by omega⟩, fun h => by omega, by omega, rfl, (putRow_self enc8 w blk off d hH).symm, rfl⟩
  case round =>
    obtain ⟨i, jn, jz, dk, n, rfl, rfl, h1, h2, hk, hds, hwr, heq⟩ := hrel
    by_cases hlt : (i : Int) < jz
    · obtain ⟨rfl, hjn⟩ := h1 hlt
      have hij : i < jn := by omega
      have hHk : Holds enc8 wr blk off dk := by rw [hwr]; exact holds_putRow enc8 _ blk off d dk (holds_ahead enc8 w n blk off d hH) hds
      obtain ⟨ci, fi⟩ := hHk i (by omega)
      obtain ⟨cj, fj⟩ := hHk jn (by omega)
      have A : Aside (wr = putRow enc8 (Sort.ahead w n) blk off dk) := hwr
      have hi1 : i < d.size := by omega
      have mixed : Tryz.prog.follows .mixedOrders = true := by kernel_rfl
      simp only [enc8] at ci cj
      clear hwr hHk hH h1 h2
      go_wp2_with fail
      go_region_o
      go_wp2
      go_roundg (jn - 1 - (i + 1))
      case measure => omega
      case rel =>
        rw [reverseLoop, if_pos hij] at heq
        exact ⟨i + 1, jn - 1, (jn : Int) - 1, swp dk i jn, n + 1, by simp, rfl, fun h => ⟨by omega, by omega⟩, fun h => by omega, Nat.le_refl _, by rw [size_swp]; exact hds,
          swap_world enc8 (by omega) (by omega) A.out (by first | rfl | simp [enc8, getElem!_pos, show jn < dk.size by omega]) (by first | rfl | simp [enc8, getElem!_pos, show i < dk.size by omega]), heq⟩
    · have hnot := h2 hlt
      go_wp2
      go_end0
      refine ⟨rfl, n, ?_⟩
      rw [reverseLoop, if_neg hnot] at heq
      rw [← Lib.reverseLoop_reverse, ← heq]

theorem and_low (n : Nat) (hn : n < 4294967296) : bits .and .u32 (n : Int) 127 = (n : Int) % 128 := by
  have h1 : (BitVec.ofInt 32 (n : Int)).toNat = n := by
    rw [BitVec.ofInt_natCast, BitVec.toNat_ofNat]; exact Nat.mod_eq_of_lt (by omega)
  have h2 : (BitVec.ofInt 32 (127 : Int)).toNat = 127 := by decide
  show IntKind.u32.wrap ((BitVec.ofInt 32 (n : Int) &&& BitVec.ofInt 32 (127 : Int)).toNat : Int) = _
  rw [BitVec.toNat_and, h1, h2, show (127 : Nat) = 2 ^ 7 - 1 from rfl, Nat.and_two_pow_sub_one_eq_mod, IntKind.wrap_u32]
  omega
theorem or_more : ∀ x : Fin 128, bits .or .u8 (x.val : Int) 128 = ((x.val + 128 : Nat) : Int) := by decide
theorem or_more' (n : Nat) : bits .or .u8 ((n : Int) % 128) 128 = ((UInt8.ofNat (n % 128 + 128)).toNat : Int) := by
  rw [show (n : Int) % 128 = ((n % 128 : Nat) : Int) by omega]
  have h := or_more ⟨n % 128, by omega⟩
  have h2 : (UInt8.ofNat (n % 128 + 128)).toNat = n % 128 + 128 := by rw [UInt8.toNat_ofNat']; omega
  rw [h2]; exact h
theorem lo_byte (n : Nat) : (n : Int) % 128 = ((UInt8.ofNat (n % 128)).toNat : Int) := by
  have h2 : (UInt8.ofNat (n % 128)).toNat = n % 128 := by rw [UInt8.toNat_ofNat']; omega
  rw [h2]; omega
theorem holds8 {w : World} {base g n cap : Nat} {l : List UInt8} (h : Lift.Own rByte (fun _ => True) w base 5 (.slice (some ⟨g, 0, none⟩) n cap) l) : Holds enc8 w g 0 l.toArray := by
  intro j hj
  have hj' : j < l.length := by simpa using hj
  obtain ⟨cs, rfl, hc⟩ := h.at (List.getElem?_eq_getElem hj')
  refine ⟨?_, by rw [Nat.zero_add]; exact h.free j⟩
  have := hc 0 _ rfl
  simp only [rByte, Nat.mul_one, Nat.add_zero, Nat.zero_add] at this ⊢
  rw [this]; simp [enc8, List.getElem?_eq_getElem hj']
theorem conv8 {w : World} {g c : Nat} {l : List UInt8} (h : Holds enc8 w g 0 l.toArray) : (convert 83 9 (.slice (some ⟨g, 0, none⟩) l.length c)).run Tryz.prog w = .ok (.string ⟨l.toArray⟩) w := by
  refine run_convert_bytes_back w 83 9 5 ⟨g, 0, none⟩ c l Tryz.underlying83 Tryz.underlying5 Tryz.underlying9 ?_
  intro j hj
  have := (h j (by simpa using hj)).1
  rw [Addr.add_lit]
  simpa [enc8, List.getElem?_eq_getElem hj] using this
theorem grownBy8 {w : World} {g n : Nat} (d : Array UInt8) : w.grownBy (putRow enc8 (Sort.ahead w n) g 0 d) (some g) := by
  refine ⟨rfl, rfl, rfl, by simp, fun k hk hne => ?_⟩
  have : g ≠ k := fun e => hne (by rw [e])
  simp [putRow, mapBlock, Sort.ahead, Array.getElem?_modify, this]
theorem byte_info : (Tryz.prog.info? 5).map (fun i => (i.zero, i.size, i.bytes)) = some (some (.int .u8 0), 1, 1) := by kernel_rfl
set_option maxHeartbeats 1000000 in
set_option maxRecDepth 100000 in
theorem mb_write (n : Nat) (hn : n < 4294967296) (w : World) : Calls Tryz.prog 53 #[.int .u32 n] w (BelowPost (.string (mbB n)) w) := by
  have a1 := and_low n hn
  obtain ⟨i0, hi, hz0, hz1, hz2⟩ := info_parts byte_info
  have HI := Lib.hid hi; have HZ0 := Lib.hid hz0; have HZ1 := Lib.hid hz1; have HZ2 := Lib.hid hz2
  clear hi hz0 hz1 hz2
  have HS := Lib.hid (bytes_lit w [UInt8.ofNat (n % 128)] #[.int .u8 ((n : Int) % 128)] (by simp only [lo_byte]; rfl) 1 rfl (by decide))
  have HN : Hid (mbU 5 (n / 128) ++ [UInt8.ofNat (n % 128)] = mbL n) := Lib.hid rfl
  go_enter Tryz.func53, Tryz.ntmps53
  go_wp2_with fail
  go_loopw [0, 3] (fun vn vb wr => ∃ (m f : Nat) (l : List UInt8), vn = .int .u32 m ∧ m < 4294967296 ∧ m < 128 ^ f ∧ l.length + f = 6 ∧ 0 < l.length ∧ Hid (mbU f m ++ l.reverse = mbL n) ∧ Lift.Own rByte (fun _ => True) wr w.heap.size 5 vb l ∧ Below w.heap.size w wr) (fun vn _ _ => (intOf vn).toNat)
  case atStart =>
    refine ⟨n / 128, 5, [UInt8.ofNat (n % 128)], by congr 1, by omega, by omega, rfl, by simp, Lib.hid ?_, HS.out, (Below.refl _ _).alloc (Nat.le_refl _) _⟩
    have := HN.out
    simpa using this
  case round =>
    obtain ⟨m, f, l, rfl, hm, hf, hlf, hl0, H, hO, hB⟩ := hrel
    obtain ⟨ao, cap, rfl⟩ := hO.form
    have hb1 := hB.size
    have hl6 : l.length ≤ 6 := by omega
    by_cases h0 : m = 0
    · subst h0
      have eM : mbU f 0 = [] := by cases f <;> simp [mbU]
      have H2 : Hid (l.reverse = mbL n) := Lib.hid (by have := H.out; rwa [eM, List.nil_append] at this)
      clear eM H hf hn
      have hg : ∃ g, ao = some ⟨g, 0, none⟩ := by
        obtain ⟨xs, h1, _⟩ := hO
        rcases h1.2 with ⟨e1, e2⟩ | ⟨g, cap', cur, e1, _⟩
        · exact absurd e2 (by omega)
        · injection e1 with e1; exact ⟨g, e1⟩
      obtain ⟨g, rfl⟩ := hg
      have hgl : w.heap.size ≤ g := (hO.lt g rfl).1
      have HR := Lib.hid (rev_any g 0 cap l.toArray wr (holds8 hO) (by simp; omega))
      have HH := Lib.hid (holds8 hO)
      rw [List.size_toArray] at HR
      clear hO
      go_wp2_with fail
      refine HR.out.mono ?_
      rintro e w3 ⟨rfl, k, rfl⟩
      have hcv := Lib.hid (conv8 (c := cap) (w := putRow enc8 (Sort.ahead wr k) g 0 l.reverse.toArray) (l := l.reverse) (holds_putRow enc8 _ g 0 l.toArray _ (holds_ahead enc8 wr k g 0 l.toArray HH.out) (by simp)))
      have HW := Lib.hid (show Below w.heap.size w (putRow enc8 (Sort.ahead wr k) g 0 l.toArray.reverse) from hB.grown (grownBy8 _) hb1 (fun k e => by cases e; exact hgl))
      rw [List.reverse_toArray] at HW ⊢
      rw [H2.out] at HW hcv ⊢
      have hl7 : (mbL n).length = l.length := by rw [← H2.out, List.length_reverse]
      rw [hl7] at hcv
      have hcv2 := hcv.out
      go_wp2_with fail
      go_ret
      exact ⟨rfl, HW.out⟩
    · have h0' : 0 < m := by omega
      obtain ⟨f, rfl⟩ : ∃ k, f = k + 1 := ⟨f - 1, by have : f ≠ 0 := (fun e => by subst e; omega); omega⟩
      have a2 := and_low m hm
      have a3 := or_more' m
      have HF : Hid (m / 128 < 128 ^ f) := Lib.hid (by rw [Nat.pow_succ] at hf; exact Nat.div_lt_of_lt_mul (by omega))
      have HM := Lib.hid (mbU_step f m h0)
      clear hf hn
      go_wp2_with (first | (at_builtin; refine wpList_push rByte rfl _ _ 83 rfl w.heap.size 5 i0 _ 1 Tryz.underlying83 HI.out HZ0.out HZ1.out HZ2.out rfl (by decide) (fun _ => True) _ l rfl hO [.int .u8 ((UInt8.ofNat (m % 128 + 128)).toNat : Int)] (UInt8.ofNat (m % 128 + 128)) _ rfl (by simp) rfl (by simp [Value.oneCell']) (by unfold maxLen; omega) (by omega) (by omega) ?_; intro v2 w2 hO2 hK2 hw2; obtain ⟨ao3, cap3, rfl⟩ := hO2.form))
      go_roundw
      case measure => simp [intOf]; omega
      case rel =>
        refine ⟨m / 128, f, l ++ [UInt8.ofNat (m % 128 + 128)], by congr 1, by omega, HF.out, by simp; omega, by simp, Lib.hid ?_, by simpa using hO2, ?_⟩
        · have := H.out; rw [HM.out] at this; simpa using this
        · exact hB.trans (hO.kbelow (B := w.heap.size) (Nat.le_refl _) hb1 hK2)

/-! ### Where halves begin -/
theorem halfN_nat {st : St} (h : 10 ≤ st.no.length) : ((st.no.length : Int) - 2).tdiv 2 = (halfN st : Int) := by
  rw [show (st.no.length : Int) - 2 = ((st.no.length - 2 : Nat) : Int) by omega]; exact (Int.ofNat_tdiv _ _).symm
set_option maxHeartbeats 1000000 in
set_option maxRecDepth 100000 in
theorem half_any {base : Nat} {w : World} {F : Fp} {st : St} (h : Raw base w F st) (hn : 10 ≤ st.no.length) : Calls Tryz.prog 23 #[.pointer (some ⟨F.b, 0, none⟩)] w (IntPost .i64 (halfN st) w) := by
  have hn2 := h.n2
  have e := halfN_nat hn
  have hq : halfN st ≤ 8192 := by unfold halfN; omega
  have HS := Lib.hid (size_any h)
  generalize halfN st = q at *
  clear h
  go_enter Tryz.func23, Tryz.ntmps23
  go_wp2_with fail
  refine HS.out.mono ?_
  rintro e w1 ⟨rfl, rfl⟩
  go_wp2_with fail
  go_ret
  exact ⟨rfl, rfl⟩
set_option maxHeartbeats 1000000 in
set_option maxRecDepth 100000 in
theorem place2_any {base : Nat} {w : World} {F : Fp} {st : St} (h : Raw base w F st) (hn : 10 ≤ st.no.length) (g : Nat) (hg : g < 4294967296) : Calls Tryz.prog 22 #[.pointer (some ⟨F.b, 0, none⟩), .int .u32 g] w (IntPost .i64 (plcN st g) w) := by
  have hn2 := h.n2
  have hq : halfN st ≤ 8192 := by unfold halfN; omega
  have HS := Lib.hid (half_any h hn)
  unfold plcN
  generalize halfN st = q at *
  have e2 : (g : Int).tmod 2 = ((g % 2 : Nat) : Int) := (Int.ofNat_tmod _ _).symm
  have e3 : g % 2 < 2 := by omega
  have e4 : g % 2 * q ≤ 8192 := by
    rcases (by omega : g % 2 = 0 ∨ g % 2 = 1) with h | h <;> rw [h] <;> omega
  have e5 : ((g % 2 : Nat) : Int) * (q : Int) = ((g % 2 * q : Nat) : Int) := by simp
  generalize g % 2 * q = r at *
  generalize g % 2 = m at *
  clear h
  go_enter Tryz.func22, Tryz.ntmps22
  go_wp2_with fail
  refine HS.out.mono ?_
  rintro e w1 ⟨rfl, rfl⟩
  go_wp2_with fail
  go_ret
  exact ⟨by congr 2, rfl⟩

/-! ### A write that may be -/
theorem empty_no (s : ByteArray) : s.toList.isEmpty = decide (s.size = 0) := by
  rw [ByteArray.toList_eq]
  have h : s.data.toList.length = s.size := Array.length_toList
  cases hl : s.data.toList with
  | nil => rw [hl] at h; simp at h; simp [← h]
  | cons a r => rw [hl] at h; simp only [List.length_cons] at h; exact (decide_eq_false (by omega)).symm
set_option maxHeartbeats 1000000 in
set_option maxRecDepth 100000 in
theorem right_any (c : KW) (h1 : c.1.size ≤ maxTx) (h2 : c.2.1.size ≤ maxTx) (w : World) : Calls Tryz.prog 28 #[.agg #[.string c.1, .string c.2.1, .bool c.2.2]] w (BelowPost (.bool (rightW c)) w) := by
  obtain ⟨k, v, g⟩ := c
  simp only at h1 h2
  have q1 := empty_no k
  have q2 := empty_no v
  have HF := Lib.hid (show rightW (k, v, g) = (!k.toList.isEmpty && decide ((k.size : Int) ≤ 40) && decide ((v.size : Int) ≤ 9000) && !(g && !v.toList.isEmpty)) from by
    rw [q1, q2]; rfl)
  clear q1 q2
  go_enter Tryz.func28, Tryz.ntmps28
  go_wp2_with fail
  all_goals
    first | go_ret | go_ret2
    refine ⟨?_, (Below.refl _ _).alloc (Nat.le_refl _) _⟩
    rw [HF.out]
    first | (simp [*]; done) | (have hx : ¬ (v.size : Int) ≤ 9000 := by omega
                                simp [*]; done) | (have hx : ¬ (k.size : Int) ≤ 40 := by omega
                                                   simp [*]; done)
theorem shr_byte (g k : Nat) : (g : Int) / k % 256 = ((u8n (g / k)).toNat : Int) := by
  rw [u8n_toNat, ← Int.natCast_ediv]; omega
theorem conv_lit (w : World) (l : List UInt8) (cs : Array Value) (e : TypeId) (hc : cs.toList = l.map (fun a => .int .u8 (a.toNat : Int))) (n c : Nat) (hn : n = l.length) :
    (convert 83 9 (.slice (some ⟨w.heap.size, 0, none⟩) n c)).run Tryz.prog (w.alloc (.cells cs e)) = .ok (.string ⟨l.toArray⟩) (w.alloc (.cells cs e)) := by
  subst hn
  refine run_convert_bytes_back _ 83 9 5 ⟨w.heap.size, 0, none⟩ c l Tryz.underlying83 Tryz.underlying5 Tryz.underlying9 ?_
  intro j hj
  rw [Addr.add_lit, Nat.zero_add]
  have h1 : cs[j]? = some (.int .u8 ((l[j]).toNat : Int)) := by
    rw [← Array.getElem?_toList, hc, List.getElem?_map, List.getElem?_eq_getElem hj]; rfl
  rw [Lib.cell_of_heap (heap_alloc_new w _)]
  exact h1
set_option maxHeartbeats 1000000 in
set_option maxRecDepth 100000 in
theorem root_any (g : Nat) (hg : g < 4294967296) (w : World) : Calls Tryz.prog 24 #[.int .u32 g] w (BelowPost (.string (rootB g)) w) := by
  go_enter Tryz.func24, Tryz.ntmps24
  go_wp2_with fail
  refine wp_loop_rounds 5 ?_
  iterate 5
    rw [rounds_succ]
    go_wp2_with fail
  rw [conv_lit w (rootL g) _ _ (by simp [rootL, fourL, u8n_toNat]; omega) 64 64 (rootL_len g).symm]
  simp only [Result.andThen]
  rw [Oper.upon_value]
  go_wp2_with fail
  go_ret
  exact ⟨rfl, (Below.refl _ _).alloc (Nat.le_refl _) _⟩
end Go.Proofs.YtdebfnlnpfienaaGreatDoor

/- Writes as a record: the program's. -/
namespace Go.Proofs.YtdebfnlnpfienaaGreatDoor
open Go.RowKit Lift
set_option linter.unusedSimpArgs false
set_option linter.unusedVariables false

theorem BK.add {base b : Nat} {ps : List (Nat × Nat × Value)} {w0 w : World} {l : List UInt8} (h : BK base b ps w0 l w) (cs : Array Value) (e : TypeId) (qs : List (Nat × Nat × Value)) (hqs : ∀ q ∈ qs, q.1 = w.heap.size ∧ cs[q.2.1]? = some q.2.2) : BK base b (qs ++ ps) w0 l (w.alloc (.cells cs e)) := by
  have hlt := h.lt
  obtain ⟨hbb, ⟨x, hB, hx⟩, hbl, hsz, hp⟩ := h
  have hb1 : Below w.heap.size w (w.alloc (.cells cs e)) := (Below.refl _ _).alloc (Nat.le_refl _) _
  refine ⟨hbb, ⟨x, hB.below hb1, fun j hj => ⟨(hx j hj).1, fun q hq => ?_⟩⟩, hbl.trans (hb1.mono hsz), by simp; omega, fun q hq => ?_⟩
  · rcases List.mem_append.1 hq with hq | hq
    · have := hB.lt.2 j hj; have := (hqs q hq).1; omega
    · exact (hx j hj).2 q hq
  · rcases List.mem_append.1 hq with hq | hq
    · obtain ⟨h1, h2⟩ := hqs q hq
      refine ⟨by omega, by simp; omega, ?_⟩
      rw [h1, Lib.cell_of_heap (heap_alloc_new w _)]; exact h2
    · obtain ⟨h1, h2, h3⟩ := hp q hq
      exact ⟨h1, by simp; omega, (hb1.cell (p := ⟨q.1, q.2.1, none⟩) h2).trans h3⟩
theorem BK.less {base b : Nat} {ps ps' : List (Nat × Nat × Value)} {w0 w : World} {l : List UInt8} (h : BK base b ps w0 l w) (hs : ∀ q ∈ ps', q ∈ ps) : BK base b ps' w0 l w := by
  obtain ⟨hbb, ⟨x, hB, hx⟩, hbl, hsz, hp⟩ := h
  exact ⟨hbb, ⟨x, hB, fun j hj => ⟨(hx j hj).1, fun q hq => (hx j hj).2 q (hs q hq)⟩⟩, hbl, hsz, fun q hq => hp q (hs q hq)⟩
theorem BK.below {base b : Nat} {ps : List (Nat × Nat × Value)} {w0 w : World} {l : List UInt8} (h : BK base b ps w0 l w) : Below base w0 w := h.2.2.1
theorem BK.get {base b : Nat} {ps : List (Nat × Nat × Value)} {w0 w : World} {l : List UInt8} (h : BK base b ps w0 l w) {q o : Nat} {v : Value} (hq : (q, o, v) ∈ ps) : w.cell? ⟨q, o, none⟩ = some v := (h.2.2.2.2 _ hq).2.2
def numV (b : Nat) : Value := .func (.func 51) #[] #[.pointer (some ⟨b, 0, none⟩)]
set_option maxHeartbeats 1000000 in
set_option maxRecDepth 100000 in
theorem num_any {base b : Nat} {ps : List (Nat × Nat × Value)} {w0 w : World} {l : List UInt8} (h : BK base b ps w0 l w) (n : Nat) (hn : n < 4294967296) (hlen : l.length + 6 ≤ 140737488355328) :
    Calls Tryz.prog 51 #[.int .i64 n, .pointer (some ⟨b, 0, none⟩)] w fun e w' => e = .returned (.tuple #[]) ∧ BK base b ps w0 (l ++ mbL n) w' := by
  have HM := Lib.hid (mb_write n hn w)
  have HB := Lib.hid h
  clear h
  go_enter Tryz.func51, Tryz.ntmps51
  go_wp2_with fail
  refine HM.out.mono ?_
  rintro e w1 ⟨rfl, hb1⟩
  have HW := Lib.hid ((HB.out.next hb1).write (mbB n) (by rw [mbB_size]; have := mbL_len n; omega))
  have hz : (mbB n).size = (mbL n).length := mbB_size n
  go_wp2_with fail
  refine HW.out.mono ?_
  rintro e w2 ⟨rfl, hb2⟩
  go_wp2_with fail
  go_end0
  refine ⟨rfl, ?_⟩
  simpa [mbB] using hb2
set_option maxHeartbeats 1000000 in
set_option maxRecDepth 100000 in
theorem text_any {base b q : Nat} {ps : List (Nat × Nat × Value)} {w0 w : World} {l : List UInt8} (h : BK base b ps w0 l w) (hq : (q, 0, numV b) ∈ ps) (s : ByteArray) (hs : s.size ≤ 100000) (hlen : l.length + 200000 ≤ 140737488355328) :
    Calls Tryz.prog 54 #[.string s, .pointer (some ⟨q, 0, none⟩), .pointer (some ⟨b, 0, none⟩)] w fun e w' => e = .returned (.tuple #[]) ∧ BK base b ps w0 (l ++ txL s) w' := by
  have c0 := h.get hq
  unfold numV at c0
  have HN := Lib.hid (num_any h s.size (by omega) (by omega))
  clear h hq
  go_enter Tryz.func54, Tryz.ntmps54
  go_wp2_with fail
  refine HN.out.mono ?_
  rintro e w1 ⟨rfl, hb1⟩
  have HW := Lib.hid (hb1.write s (by have := mbL_len s.size; simp; omega))
  go_wp2_with fail
  refine HW.out.mono ?_
  rintro e w2 ⟨rfl, hb2⟩
  go_wp2_with fail
  go_end0
  exact ⟨rfl, by simpa [txL, bl] using hb2⟩
def recT (l : List KW) (k : Nat) : List UInt8 := mbL l.length ++ ((l.take k).map wrL).flatten
theorem recT_zero (l : List KW) : recT l 0 = mbL l.length := by simp [recT]
theorem recT_all (l : List KW) : recT l l.length = recL l := by simp [recT, recL]
theorem recT_succ {l : List KW} {k : Nat} {c : KW} (h : l[k]? = some c) : recT l (k + 1) = recT l k ++ wrL c := by
  simp [recT, take_at2 h]
theorem recT_len {l : List KW} (hsz : ∀ c ∈ l, c.1.size ≤ 40 ∧ c.2.1.size ≤ 9000) : ∀ k, k ≤ l.length → (recT l k).length ≤ 6 + 9100 * k
  | 0, _ => by rw [recT_zero]; have := mbL_len l.length; omega
  | k + 1, hk => by
    obtain ⟨c, hc⟩ := some_at (l := l) (k := k) (by omega)
    have h1 := recT_len hsz k (by omega)
    have h2 := hsz c (List.mem_of_getElem? hc)
    have h3 := wrL_max c
    rw [recT_succ hc, List.length_append]; omega
set_option maxHeartbeats 2000000 in
set_option maxRecDepth 100000 in
theorem record_any (ao : Option Addr) (cap : Nat) (l : List KW) (w : World) (hl : SlAt rKw (· < w.heap.size) w ao l) (hlen : l.length ≤ 1000000) (hsz : ∀ c ∈ l, c.1.size ≤ 40 ∧ c.2.1.size ≤ 9000) :
    Calls Tryz.prog 29 #[.slice ao l.length cap] w (BelowPost (.string (recB l)) w) := by
  have hz0 : (w.alloc (.cells #[.pointer none, .slice none 0 0] 98)).heap.size = w.heap.size + 1 := by simp
  have HB0 := Lib.hid ((BK.fresh w).add #[numV w.heap.size] 46 [(w.heap.size + 1, 0, numV w.heap.size)] (fun q hq => by
    obtain rfl := List.mem_singleton.1 hq
    exact ⟨hz0.symm, rfl⟩))
  have HL := Lib.hid (recT_len hsz)
  have HS := Lib.hid hsz
  clear hz0 hsz
  go_enter Tryz.func29, Tryz.ntmps29
  go_wp2_with fail
  refine (num_any HB0.out l.length (by omega) (by simp)).mono ?_
  rintro e w1 ⟨rfl, hb1⟩
  rw [List.nil_append, ← recT_zero] at hb1
  have HB1 := Lib.hid hb1
  clear hb1
  go_wp2_with fail
  go_loopw [16] (fun v16 wr => ∃ k : Nat, k ≤ l.length ∧ v16 = .int .i64 k ∧ Hid (BK w.heap.size w.heap.size [(w.heap.size + 1, 0, numV w.heap.size)] w (recT l k) wr)) (fun v16 _ => l.length - (intOf v16).toNat)
  case atStart => exact ⟨0, Nat.zero_le _, rfl, Lib.hid (HB1.out.less (fun q hq => by simpa using hq))⟩
  case round =>
    obtain ⟨k, hk, rfl, HB⟩ := hrel
    by_cases hkl : k < l.length
    · obtain ⟨c, hcl⟩ := some_at hkl
      obtain ⟨b, off, rfl, _, hlt, _, _, y0, y1, y2⟩ := kw_get (hl.old HB.out.below) hcl
      have hkl2 : (k : Int) < (l.length : Int) := by omega
      obtain ⟨s1, s2⟩ := HS.out c (List.mem_of_getElem? hcl)
      have hlk := HL.out k hk
      have HE := Lib.hid (recT_succ hcl)
      have HBx := Lib.hid (HB.out.add #[.string c.1, .string c.2.1, .bool c.2.2] 50 [(wr.heap.size, 0, .string c.1), (wr.heap.size, 1, .string c.2.1), (wr.heap.size, 2, .bool c.2.2)] (fun q hq => by
        simp only [List.mem_cons, List.not_mem_nil, or_false] at hq
        rcases hq with rfl | rfl | rfl <;> exact ⟨rfl, rfl⟩))
      have c1 := HBx.out.get (q := w.heap.size + 1) (o := 0) (v := numV w.heap.size) (by simp)
      unfold numV at c1
      obtain ⟨ck, cv, cg⟩ := c
      simp only at y0 y1 y2 s1 s2 HBx HE
      clear hl
      cases cg with
      | true =>
        go_wp2_with fail
        refine (num_any HBx.out (1 : Nat) (by omega) (by omega)).mono ?_
        rintro e w2 ⟨rfl, hb2⟩
        have HB2 := Lib.hid hb2
        have d0 := hb2.get (q := wr.heap.size) (o := 0) (v := .string ck) (by simp)
        clear hb2
        go_wp2_with fail
        refine (text_any HB2.out (q := w.heap.size + 1) (by simp) ck (by omega) (by have := mbL_len 1; simp; omega)).mono ?_
        rintro e w3 ⟨rfl, hb3⟩
        have HB3 := Lib.hid hb3
        clear hb3 HB2 d0
        go_wp2_with fail
        go_roundw
        case measure => simp [intOf]; omega
        case rel => exact ⟨k + 1, by omega, by go_num, Lib.hid (by rw [HE.out]; have := HB3.out.less (ps' := [(w.heap.size + 1, 0, numV w.heap.size)]) (fun q hq => by simp at hq; simp [hq]); rw [List.append_assoc] at this; exact this)⟩
      | false =>
        go_wp2_with fail
        refine (num_any HBx.out (0 : Nat) (by omega) (by omega)).mono ?_
        rintro e w2 ⟨rfl, hb2⟩
        have HB2 := Lib.hid hb2
        have d0 := hb2.get (q := wr.heap.size) (o := 0) (v := .string ck) (by simp)
        clear hb2
        go_wp2_with fail
        refine (text_any HB2.out (q := w.heap.size + 1) (by simp) ck (by omega) (by have := mbL_len 0; simp; omega)).mono ?_
        rintro e w3 ⟨rfl, hb3⟩
        have HB3 := Lib.hid hb3
        have d1 := hb3.get (q := wr.heap.size) (o := 1) (v := .string cv) (by simp)
        clear hb3 HB2 d0
        go_wp2_with fail
        refine (text_any HB3.out (q := w.heap.size + 1) (by simp) cv (by omega) (by have := mbL_len 0; have := txL_len ck; simp; omega)).mono ?_
        rintro e w4 ⟨rfl, hb4⟩
        have HB4 := Lib.hid hb4
        clear hb4 HB3 d1
        go_wp2_with fail
        go_roundw
        case measure => simp [intOf]; omega
        case rel => exact ⟨k + 1, by omega, by go_num, Lib.hid (by rw [HE.out]; have := HB4.out.less (ps' := [(w.heap.size + 1, 0, numV w.heap.size)]) (fun q hq => by simp at hq; simp [hq]); rw [List.append_assoc, List.append_assoc] at this; simpa [wrL] using this)⟩
    · obtain rfl : k = l.length := by omega
      have HX := Lib.hid (HB.out.string)
      go_wp2_with fail
      refine HX.out.mono ?_
      rintro e w2 ⟨rfl, hb2⟩
      go_wp2_with fail
      go_ret
      refine ⟨?_, hb2⟩
      rw [recT_all]; rfl
end Go.Proofs.YtdebfnlnpfienaaGreatDoor

/- keep's sectors that are made sure; whether some write may not be. -/
namespace Go.Proofs.YtdebfnlnpfienaaGreatDoor
open Go.RowKit Lift
set_option linter.unusedSimpArgs false
set_option linter.unusedVariables false

def putsL (s : ByteArray) (l : List Nat) : List Step := l.map (fun a => some (a, s))
theorem putsL_snoc {s : ByteArray} {l : List Nat} {k a : Nat} (h : l[k]? = some a) : putsL s (l.take (k + 1)) = putsL s (l.take k) ++ [some (a, s)] := by
  simp [putsL, take_at2 h]
theorem sure_split {s : ByteArray} {l : List Nat} {k a : Nat} (h : l[k]? = some a) : sureOps s l = putsL s (l.take k) ++ [some (a, s)] ++ (putsL s (l.drop (k + 1)) ++ [none]) := by
  have : l = l.take k ++ a :: l.drop (k + 1) := by
    obtain ⟨h1, rfl⟩ := List.getElem?_eq_some_iff.1 h
    rw [List.getElem_cons_drop, List.take_append_drop]
  conv => lhs; rw [this]
  simp [sureOps, putsL]
theorem runOps_err {st : St} {l m : List Step} {o : Step} (h0 : (runOps st l).2 = 0) (he : stepEr (runOps st l).1 o ≠ 0) : runOps st (l ++ [o] ++ m) = (stepSt (runOps st l).1 o, stepEr (runOps st l).1 o) := by
  rw [List.append_assoc, runOps_append, if_pos h0]
  simp [runOps, he]
set_option maxHeartbeats 2000000 in
set_option maxRecDepth 100000 in
theorem sure_any {base : Nat} {w : World} {F : Fp} {st : St} (h : Raw base w F st) (s : ByteArray) (hs : s.size ≤ 64) (ao : Option Addr) (cap : Nat) (l : List Nat) (hlen : l.length ≤ 10) (hl : SlAt (Rd.int .i64) (fun b => ¬ foot F b) w ao (l.map fun n : Nat => (n : Int))) (hlo : st.lo.length ≤ 1000000) :
    Calls Tryz.prog 20 #[.pointer (some ⟨F.b, 0, none⟩), .string s, .slice ao l.length cap] w (fun e w' => e = .returned (.int .i64 (runOps st (sureOps s l)).2) ∧ PlS base F (runOps st (sureOps s l)).1 w w') := by
  have H0 := Lib.hid (PlS.refl h)
  clear h
  go_enter Tryz.func20, Tryz.ntmps20
  go_wp2_with fail
  go_loopw [12] (fun v wr => ∃ k : Nat, k ≤ l.length ∧ v = .int .i64 k ∧ Hid ((runOps st (putsL s (l.take k))).2 = 0) ∧ Hid (PlS base F (runOps st (putsL s (l.take k))).1 w wr)) (fun v _ => l.length - (intOf v).toNat)
  case atStart => exact ⟨0, Nat.zero_le _, rfl, Lib.hid (by simp [putsL, runOps]), Lib.hid (by simpa [putsL, runOps] using H0.out)⟩
  case round =>
    obtain ⟨k, hk, rfl, HE, HP⟩ := hrel
    have hll : (runOps st (putsL s (l.take k))).1.lo.length ≤ 1000010 := by
      have h1 := runOps_lo (putsL s (l.take k)) st
      have h2 : (putsL s (l.take k)).length = (l.take k).length := List.length_map _
      have h3 := List.length_take_le k l
      rw [h2] at h1; omega
    obtain ⟨F1, hR, hFb, hFf, hFk⟩ := HP.out
    by_cases hkl : k < l.length
    · obtain ⟨a, hal⟩ := some_at hkl
      obtain ⟨b, off, cs, rfl, hb, hlt, ⟨rfl, hwf⟩, hcs⟩ := (hl.kept hFk (fun b hb _ => hb)).get (k := k) (c := (a : Int)) (by rw [List.getElem?_map, hal]; rfl)
      have hc0 := hcs 0 _ rfl
      simp only [Rd.int, Nat.mul_one, Nat.add_zero] at hc0
      have hkl2 : (k : Int) < (l.length : Int) := by omega
      have HQ := Lib.hid (put_any hR a s (by unfold maxTx; omega) (by omega))
      rw [hFb] at HQ
      have HS := Lib.hid (sure_split (s := s) hal)
      have HT := Lib.hid (putsL_snoc (s := s) hal)
      clear hl hcs hwf hR
      go_wp2_with fail
      refine HQ.out.mono ?_
      rintro e w1 hp
      obtain ⟨rfl, hs2⟩ := hp.s
      have HN := Lib.hid (PlS.on hFb hFf hFk hs2)
      clear hs2 hp
      by_cases he : putE (runOps st (putsL s (l.take k))).1 a s = 0
      · have HE2 : Hid (runOps st (putsL s (l.take (k + 1))) = (putS (runOps st (putsL s (l.take k))).1 a s, 0)) := Lib.hid (by
          rw [HT.out, runOps_append, if_pos HE.out]; simp [runOps, stepEr, stepSt, he])
        go_wp2_with fail
        go_roundw
        case measure => simp [intOf]; omega
        case rel => exact ⟨k + 1, by omega, by go_num, Lib.hid (by rw [HE2.out]), Lib.hid (by rw [HE2.out]; exact HN.out)⟩
      · have HE2 : Hid (runOps st (sureOps s l) = (putS (runOps st (putsL s (l.take k))).1 a s, putE (runOps st (putsL s (l.take k))).1 a s)) := Lib.hid (by
          rw [HS.out, runOps_err (o := some (a, s)) HE.out he]; rfl)
        have he2 : (putE (runOps st (putsL s (l.take k))).1 a s == 0) = false := by simpa using he
        go_wp2_with fail
        go_ret
        rw [HE2.out]; exact ⟨rfl, HN.out⟩
    · obtain rfl : k = l.length := by omega
      rw [List.take_length] at HE HP hR hll
      have HQ := Lib.hid (sync_any hR (by omega))
      rw [hFb] at HQ
      have HE2 : Hid (runOps st (sureOps s l) = (syncS (runOps st (putsL s l)).1, syncE (runOps st (putsL s l)).1)) := Lib.hid (by
        rw [show sureOps s l = putsL s l ++ [none] from rfl, runOps_append, if_pos HE.out, runOps_one]; rfl)
      clear hl hR
      go_wp2_with fail
      refine HQ.out.mono ?_
      rintro e w1 hp
      obtain ⟨rfl, hs2⟩ := hp.s
      have HN := Lib.hid (PlS.on hFb hFf hFk hs2)
      clear hs2 hp
      go_wp2_with fail
      go_ret
      rw [HE2.out]; exact ⟨rfl, HN.out⟩

/-! ### Is there a write that may not be? -/
set_option maxHeartbeats 1000000 in
set_option maxRecDepth 100000 in
theorem bad1_any (c : KW) (h1 : c.1.size ≤ maxTx) (h2 : c.2.1.size ≤ maxTx) (w : World) : Calls Tryz.prog 27 #[.agg #[.string c.1, .string c.2.1, .bool c.2.2]] w (BelowPost (.bool (!rightW c)) w) := by
  have HR := Lib.hid (fun W => right_any c h1 h2 W)
  obtain ⟨k, v, g⟩ := c
  go_enter Tryz.func27, Tryz.ntmps27
  go_wp2_with fail
  refine (HR.out _).mono ?_
  rintro e w1 ⟨rfl, hb⟩
  go_wp2_with fail
  go_ret
  exact ⟨rfl, ((Below.refl _ _).alloc (Nat.le_refl _) _).trans (hb.mono (by simp))⟩
def badAt : List KW → Option Nat
  | [] => none
  | c :: r => if rightW c then (badAt r).map (· + 1) else some 0
set_option maxHeartbeats 1000000 in
set_option maxRecDepth 100000 in
theorem index_any (ao : Option Addr) (cap : Nat) (l : List KW) (w : World) (hl : SlAt rKw (· < w.heap.size) w ao l) (hlen : l.length ≤ 1000000) :
    Calls Tryz.prog 50 #[.slice ao l.length cap, .func (.func 27) #[] #[]] w (fun e w' => ∃ x : Int, e = .returned (.int .i64 x) ∧ decide (0 ≤ x) = l.any (fun c => !rightW c) ∧ x ≤ 1000000 ∧ Below w.heap.size w w') := by
  go_enter Tryz.func50, Tryz.ntmps50
  go_wp2_with fail
  go_loopw [8] (fun v wr => ∃ k : Nat, k ≤ l.length ∧ v = .int .i64 k ∧ Hid ((l.take k).any (fun c => !rightW c) = false) ∧ Below w.heap.size w wr) (fun v _ => l.length - (intOf v).toNat)
  case atStart => exact ⟨0, Nat.zero_le _, rfl, Lib.hid (by simp), Below.refl _ _⟩
  case round =>
    obtain ⟨k, hk, rfl, HE, hB⟩ := hrel
    by_cases hkl : k < l.length
    · obtain ⟨c, hcl⟩ := some_at hkl
      obtain ⟨b, off, rfl, _, hlt, s1, s2, y0, y1, y2⟩ := kw_get (hl.old hB) hcl
      have hkl2 : (k : Int) < (l.length : Int) := by omega
      have HC := Lib.hid (bad1_any c s1 s2 wr)
      have HT : Hid ((l.take (k + 1)).any (fun c => !rightW c) = ((l.take k).any (fun c => !rightW c) || !rightW c)) := Lib.hid (by rw [take_at2 hcl]; simp)
      have HM := Lib.hid (List.mem_of_getElem? hcl)
      obtain ⟨ck, cv, cg⟩ := c
      simp only at y0 y1 y2
      clear hl
      go_wp2_with fail
      refine HC.out.mono ?_
      rintro e w1 ⟨rfl, hb⟩
      by_cases hr : rightW (ck, cv, cg) = true
      · go_wp2_with fail
        go_roundw
        case measure => simp [intOf]; omega
        case rel => exact ⟨k + 1, by omega, by go_num, Lib.hid (by rw [HT.out, HE.out, hr]; rfl), chain hB hb⟩
      · have hr2 : rightW (ck, cv, cg) = false := by simpa using hr
        go_wp2_with fail
        go_ret
        refine ⟨k, rfl, ?_, by omega, chain hB hb⟩
        rw [List.any_eq_true.2 ⟨_, HM.out, by rw [hr2]; rfl⟩]; simp
    · obtain rfl : k = l.length := by omega
      rw [List.take_length] at HE
      go_wp2_with fail
      go_ret
      exact ⟨-1, rfl, by rw [HE.out]; rfl, by omega, hB⟩
set_option maxHeartbeats 1000000 in
set_option maxRecDepth 100000 in
theorem contains_any (ao : Option Addr) (cap : Nat) (l : List KW) (w : World) (hl : SlAt rKw (· < w.heap.size) w ao l) (hlen : l.length ≤ 1000000) :
    Calls Tryz.prog 26 #[.slice ao l.length cap, .func (.func 27) #[] #[]] w (BelowPost (.bool (l.any (fun c => !rightW c))) w) := by
  have HI := Lib.hid (index_any ao cap l w hl hlen)
  clear hl
  go_enter Tryz.func26, Tryz.ntmps26
  go_wp2_with fail
  refine HI.out.mono ?_
  rintro e w1 ⟨x, rfl, hx, hx1, hb⟩
  go_wp2_with fail
  go_ret
  exact ⟨rfl, hb⟩
end Go.Proofs.YtdebfnlnpfienaaGreatDoor

/- A keep's writes done; its room; its generation; its values. -/
namespace Go.Proofs.YtdebfnlnpfienaaGreatDoor
open Go.RowKit Lift Go.Maps
set_option linter.unusedSimpArgs false
set_option linter.unusedVariables false

theorem doing_zero (ks : KSt) : ks.doing [] = ks := by simp [KSt.doing]
theorem doing_snoc (ks : KSt) (l : List KW) (c : KW) : ks.doing (l ++ [c]) = { ks.doing l with kv := kdo (ks.doing l).kv c, cnt := (ks.doing l).cnt + 1 } := by
  simp [KSt.doing, List.foldl_append]; omega
section
variable {base : Nat} {w w1 : World} {F : Fp} {st : St} {J : JF} {js : JSt} {K : KF} {ks : KSt}
theorem SMap.mono {P : Program} {A E : TypeId} {w : World} {b n m : Nat} {f : ByteArray → Option ByteArray} (h : SMap P A E w b n f) (hm : n ≤ m) : SMap P A E w b m f := by
  obtain ⟨D, h1, h2⟩ := h; exact ⟨D, h1.mono hm, h2⟩
theorem KRaw.turn (h : KRaw base w F st J js K ks) (c : KW) (hc1 : c.1.size ≤ 40) (hc2 : c.2.1.size ≤ 9000) (hn : ks.cnt + 1 ≤ 1000000) (hg : Kept (fun k => k = K.mb) w w1)
    (hm : SMap Tryz.prog 9 9 w1 K.mb (ks.cnt + 1) (fun y => if y = c.1 then (if c.2.2 then none else some c.2.1) else kget ks.kv y)) :
    KRaw base w1 F st J js K { ks with kv := kdo ks.kv c, cnt := ks.cnt + 1 } where
  jr := h.jr.kept hg (fun k hk e => h.n2 (e ▸ hk))
  blk := (hg.block K.b h.lt h.ne).trans h.blk
  map := SMap.eqf hm (fun x _ => (kget_do h.rise).symm)
  rise := kdo_rising h.rise
  sz := fun p hp => by
    rcases kdo_mem hp with hp | ⟨_, rfl⟩
    · exact h.sz p hp
    · exact ⟨hc1, hc2⟩
  kl := by
    have h1 := kdo_len c ks.kv
    have h2 := h.kl
    show (kdo ks.kv c).length ≤ ks.cnt + 1
    have h3 : (if c.2.2 = true then 0 else 1 : Nat) ≤ 1 := by split <;> omega
    omega
  cn := hn
  gn := h.gn
  bb := h.bb
  mm := h.mm
  ne := h.ne
  n1 := h.n1
  n2 := h.n2
end
set_option maxHeartbeats 4000000 in
set_option maxRecDepth 100000 in
theorem do_any0 {base : Nat} {w : World} {F : Fp} {st : St} {J : JF} {js : JSt} {K : KF} {ks : KSt} (h : KRaw base w F st J js K ks) (ao : Option Addr) (cap : Nat) (l : List KW) (hl : SlAt rKw (fun b => b ≠ K.mb) w ao l) (hlen : l.length ≤ 1000)
    (hsz : ∀ c ∈ l, c.1.size ≤ 40 ∧ c.2.1.size ≤ 9000) (hcn : ks.cnt + l.length ≤ 1000000) :
    Calls Tryz.prog 36 #[.pointer (some ⟨K.b, 0, none⟩), .slice ao l.length cap] w (fun e w' => e = .returned (.tuple #[]) ∧ KRaw base w' F st J js K (ks.doing l) ∧ Kept (fun k => k = K.mb) w w') := by
  have H := Lib.hid h
  have HS := Lib.hid hsz
  have hke := h.ne
  clear h hsz
  go_enter Tryz.func36, Tryz.ntmps36
  go_wp2_with fail
  go_loopw [8] (fun v wr => ∃ k : Nat, k ≤ l.length ∧ v = .int .i64 k ∧ Hid (KRaw base wr F st J js K (ks.doing (l.take k))) ∧ Hid (Kept (fun k => k = K.mb) w wr)) (fun v _ => l.length - (intOf v).toNat)
  case atStart => exact ⟨0, Nat.zero_le _, rfl, Lib.hid (by simpa [doing_zero] using H.out), Lib.hid (Kept.refl _ _)⟩
  case round =>
    obtain ⟨k, hk, rfl, HK, HP⟩ := hrel
    by_cases hkl : k < l.length
    · obtain ⟨c, hcl⟩ := some_at hkl
      obtain ⟨b, off, rfl, hb, hlt, _, _, y0, y1, y2⟩ := kw_get (hl.kept HP.out (fun b hb _ => hb)) hcl
      have hkl2 : (k : Int) < (l.length : Int) := by omega
      obtain ⟨s1, s2⟩ := HS.out c (List.mem_of_getElem? hcl)
      have HT : Hid (ks.doing (l.take (k + 1)) = { ks.doing (l.take k) with kv := kdo (ks.doing (l.take k)).kv c, cnt := (ks.doing (l.take k)).cnt + 1 }) := Lib.hid (by rw [take_at2 hcl, doing_snoc])
      have hcn2 : (ks.doing (l.take k)).cnt + 1 ≤ 1000000 := by
        have : (ks.doing (l.take k)).cnt = ks.cnt + (l.take k).length := rfl
        rw [this, List.length_take]; omega
      generalize hX : ks.doing (l.take k) = kx at *
      clear hX
      obtain ⟨ck, cv, cg⟩ := c
      simp only at y0 y1 y2 s1 s2
      -- the box
      obtain ⟨W2, hW2⟩ : ∃ x, wr.alloc (.cells #[.string ck, .string cv, .bool cg] 50) = x := ⟨_, rfl⟩
      have hb2 : Below wr.heap.size wr W2 := by rw [← hW2]; exact (Below.refl _ _).alloc (Nat.le_refl _) _
      have z0 : W2.cell? ⟨wr.heap.size, 0, none⟩ = some (.string ck) := by rw [← hW2]; simp [go_sem]
      have z1 : W2.cell? ⟨wr.heap.size, 1, none⟩ = some (.string cv) := by rw [← hW2]; simp [go_sem]
      have z2 : W2.cell? ⟨wr.heap.size, 2, none⟩ = some (.bool cg) := by rw [← hW2]; simp [go_sem]
      have hz2 : wr.heap.size < W2.heap.size := by rw [← hW2]; simp
      obtain ⟨W3, hW3⟩ : ∃ x, W2.drew = x := ⟨_, rfl⟩
      have hb3 : Below wr.heap.size wr W3 := by rw [← hW3]; exact hb2.drew
      have hW3' : { W2 with drawn := W2.drawn + 1 } = W3 := hW3
      have z0' : W3.cell? ⟨wr.heap.size, 0, none⟩ = some (.string ck) := by rw [← hW3]; exact z0
      have z1' : W3.cell? ⟨wr.heap.size, 1, none⟩ = some (.string cv) := by rw [← hW3]; exact z1
      have hK3 := HK.out.below hb3
      have y5 := hK3.cells.2.1
      have HMap := Lib.hid hK3.map
      have HK3 := Lib.hid hK3
      have HP3 := Lib.hid (HP.out.trans (Kept.of_below hb3 (fun _ => False)) (Z := fun k => k = K.mb) (fun _ _ h => h) (fun _ _ h => h.elim))
      have HW2 := Lib.hid hW2
      have HW3 := Lib.hid hW3'
      have Z2 := Lib.hid z2
      clear hK3 hb2 hb3 hl hW3 z0 z1 z2 hW2 hW3' hz2
      cases cg with
      | true =>
        go_upto_region 4 with fail
        rw [HW2.out]
        refine wp_region_still_tail 6 (by kernel_rfl) (by kernel_rfl) ?_
        rw [HW3.out]
        simp only [List.take_succ_cons, List.take_zero, List.drop_succ_cons, List.drop_zero]
        repeat still_step
        refine wpStill_nil ?_
        refine wpList_smap_del W3 rfl _ _ 66 9 rfl 9 Tryz.underlying66 Tryz.underlying9 K.mb _ _ rfl HMap.out ck rfl (by unfold maxLen; omega) ?_
        intro w5 hm5 hg5
        have hk5 : Kept (fun k => k = K.mb) W3 w5 := (Kept.of_grown hg5).wide (fun k _ e => by cases e; rfl)
        have HK5 := Lib.hid (HK3.out.turn (ck, cv, true) s1 s2 hcn2 hk5 (SMap.mono hm5 (Nat.le_succ _)))
        have HP5 := Lib.hid (HP3.out.trans hk5 (Z := fun k => k = K.mb) (fun _ _ h => h) (fun _ _ h => h))
        go_wp2_with fail
        go_roundw
        case measure => simp [intOf]; omega
        case rel => exact ⟨k + 1, by omega, by go_num, Lib.hid (by rw [HT.out]; exact HK5.out), HP5⟩
      | false =>
        go_upto_region 5 with fail
        rw [HW2.out]
        refine wp_region_still_tail 8 (by kernel_rfl) (by kernel_rfl) ?_
        rw [HW3.out]
        simp only [List.take_succ_cons, List.take_zero, List.drop_succ_cons, List.drop_zero]
        repeat still_step
        refine wpStill_nil ?_
        refine wpList_smap_put W3 rfl _ _ _ 66 rfl 9 9 Tryz.underlying66 Tryz.underlying9 Tryz.underlying9 K.mb _ _ rfl HMap.out (by unfold maxLen; omega) ck cv rfl rfl (by unfold maxLen; omega) (by unfold maxLen; omega) ?_
        intro w5 hm5 hg5
        have hk5 : Kept (fun k => k = K.mb) W3 w5 := (Kept.of_grown hg5).wide (fun k _ e => by cases e; rfl)
        have HK5 := Lib.hid (HK3.out.turn (ck, cv, false) s1 s2 hcn2 hk5 hm5)
        have HP5 := Lib.hid (HP3.out.trans hk5 (Z := fun k => k = K.mb) (fun _ _ h => h) (fun _ _ h => h))
        go_wp2_with fail
        go_roundw
        case measure => simp [intOf]; omega
        case rel => exact ⟨k + 1, by omega, by go_num, Lib.hid (by rw [HT.out]; exact HK5.out), HP5⟩
    · obtain rfl : k = l.length := by omega
      rw [List.take_length] at HK
      go_wp2_with fail
      go_end0
      exact ⟨rfl, HK.out, HP.out⟩

theorem do_any {base : Nat} {w : World} {F : Fp} {st : St} {J : JF} {js : JSt} {K : KF} {ks : KSt} (h : KRaw base w F st J js K ks) (ao : Option Addr) (cap : Nat) (l : List KW) (hl : SlAt rKw (fun b => b ≠ K.mb) w ao l) (hlen : l.length ≤ 1000)
    (hsz : ∀ c ∈ l, c.1.size ≤ 40 ∧ c.2.1.size ≤ 9000) (hcn : ks.cnt + l.length ≤ 1000000) :
    Calls Tryz.prog 36 #[.pointer (some ⟨K.b, 0, none⟩), .slice ao l.length cap] w (fun e w' => e = .returned (.tuple #[]) ∧ KS base F J K st js (ks.doing l) w w') :=
  (do_any0 h ao cap l hl hlen hsz hcn).mono fun e w' ⟨h1, h2, h3⟩ => ⟨h1, F, J, h2, rfl, fun _ h => .inl h, h3.wide (fun k _ e => .inr (.inr e))⟩
set_option maxHeartbeats 1000000 in
set_option maxRecDepth 100000 in
theorem room_any {base : Nat} {w : World} {F : Fp} {st : St} {J : JF} {js : JSt} {K : KF} {ks : KSt} (h : KRaw base w F st J js K ks) (hn : 10 ≤ st.no.length) (t : Int) (ht1 : -1000000 ≤ t) (ht2 : t ≤ 1000000) :
    Calls Tryz.prog 32 #[.pointer (some ⟨K.b, 0, none⟩), .int .i64 t] w (BelowPost (.int .i64 (roomI st t)) w) := by
  obtain ⟨c0, c1, c2, c3, c4⟩ := h.cells
  have HH := Lib.hid (half_any h.jr.raw hn)
  have hn2 := h.jr.raw.n2
  have hq : halfN st ≤ 8192 := by unfold halfN; omega
  unfold roomI
  generalize halfN st = q at *
  clear h
  have q1 : ∀ x w, (Builtin.min_ #[3, 3] 3 #[.int .i64 1048576, .int .i64 x]).run Tryz.prog w = .ok (.int .i64 (min 1048576 x)) w := fun x w => by
    simp [Builtin.min_, Builtin.min2, go_sem]; omega
  go_enter Tryz.func32, Tryz.ntmps32
  go_wp2_with fail
  refine HH.out.mono ?_
  rintro e w1 ⟨rfl, rfl⟩
  go_wp2_with fail
  go_ret
  exact ⟨rfl, Below.refl _ _⟩
set_option maxHeartbeats 1000000 in
set_option maxRecDepth 100000 in
theorem gen_any {base : Nat} {w : World} {F : Fp} {st : St} {J : JF} {js : JSt} {K : KF} {ks : KSt} (h : KRaw base w F st J js K ks) : Calls Tryz.prog 13 #[.pointer (some ⟨K.b, 0, none⟩)] w (IntPost .u32 ks.gen w) := by
  obtain ⟨c0, c1, c2, c3, c4⟩ := h.cells
  clear h
  go_enter Tryz.func13, Tryz.ntmps13
  go_wp2_with fail
  go_ret
  exact ⟨rfl, rfl⟩
theorem zero_str (w : World) : (zeroValue 9).run Tryz.prog w = .ok (.string ByteArray.empty) w := by kernel_rfl
set_option maxHeartbeats 1000000 in
set_option maxRecDepth 100000 in
theorem get3_any {base : Nat} {w : World} {F : Fp} {st : St} {J : JF} {js : JSt} {K : KF} {ks : KSt} (h : KRaw base w F st J js K ks) (key : ByteArray) (hk : key.size ≤ maxLen) : Calls Tryz.prog 18 #[.pointer (some ⟨K.b, 0, none⟩), .string key] w (fun e w' => e = .returned (.tuple #[.string ((kget ks.kv key).getD ByteArray.empty), .bool (kget ks.kv key).isSome]) ∧ w' = w) := by
  obtain ⟨c0, c1, c2, c3, c4⟩ := h.cells
  have HM := Lib.hid h.map
  clear h
  go_enter Tryz.func18, Tryz.ntmps18
  go_wp2_with (first | (at_lookup; refine wpList_smap_getOk w rfl _ _ 66 rfl 9 9 Tryz.underlying66 Tryz.underlying9 Tryz.underlying9 (zero_str w) K.mb _ _ rfl HM.out key rfl hk ?_; intro hsz) | fail)
  go_ret2
  exact ⟨rfl, rfl⟩
end Go.Proofs.YtdebfnlnpfienaaGreatDoor

/- A keep's keys with their values, one by one. -/
namespace Go.Proofs.YtdebfnlnpfienaaGreatDoor
open Go.RowKit Lift Go.Maps Go.Sort Go.Shelf
set_option linter.unusedSimpArgs false
set_option linter.unusedVariables false
attribute [local go_sem] Oper.semAt_some

/-! ### strings.HasPrefix -/
theorem beq_bytes (a b : ByteArray) : (a.toList == b.toList) = decide (a = b) := by
  rw [ByteArray.toList_eq, ByteArray.toList_eq]
  by_cases h : a = b
  · subst h; simp
  · rw [decide_eq_false h]
    exact beq_eq_false_iff_ne.2 (fun e => h (ByteArray.ext (Array.toList_inj.1 e)))
def preB (s p : ByteArray) : Bool := decide (p.size ≤ s.size) && decide (s.extract 0 p.size = p)
theorem preB_empty (s p : ByteArray) (hp : p.size = 0) : preB s p = true := by
  have : s.extract 0 p.size = p := by
    apply ByteArray.ext
    apply Array.toList_inj.1
    have h1 : p.data.toList = [] := List.eq_nil_of_length_eq_zero (by rw [Array.length_toList]; exact hp)
    rw [h1, hp]; simp
  unfold preB
  rw [decide_eq_true (show p.size ≤ s.size by omega), decide_eq_true this]; rfl
set_option maxHeartbeats 1000000 in
set_option maxRecDepth 100000 in
theorem hasPre_any (s p : ByteArray) (hs : s.size ≤ 1000000) (hp : p.size ≤ 1000000) (w : World) : Calls Tryz.prog 49 #[.string s, .string p] w (fun e w' => e = .returned (.bool (preB s p)) ∧ w' = w) := by
  have h2 : ∀ w, Calls Tryz.prog 81 #[.string s, .string p] w (fun e w' => e = .returned (.bool (preB s p)) ∧ w' = w) := fun w => by
    unfold preB
    by_cases h : p.size ≤ s.size
    · have hd : decide ((p.size : Int) ≤ (s.size : Int)) = true := by simpa using h
      have h' : (p.size : Int) ≤ (s.size : Int) := by omega
      go_enter Tryz.func81, Tryz.ntmps81
      go_wp2_with fail
      go_ret
      exact ⟨by rw [decide_eq_true h, ← beq_bytes]; rfl, rfl⟩
    · have h' : ¬ (p.size : Int) ≤ (s.size : Int) := by omega
      go_enter Tryz.func81, Tryz.ntmps81
      go_wp2_with fail
      go_ret
      exact ⟨by simp [h], rfl⟩
  go_enter Tryz.func49, Tryz.ntmps49
  go_wp2_with fail
  refine (h2 _).mono ?_
  rintro e w1 ⟨rfl, rfl⟩
  go_wp2_with fail
  go_ret
  exact ⟨rfl, rfl⟩

/-! ### The keys, sorted -/
theorem sortsS (m : Nat) : AnyZ.SortsIn Tryz.prog Tryz.sortedA_ren Fence.wide m :=
  ⟨fun blk off cap ss W hH hblk hsz => callsIn_wide.2 (AnyM.slices_Sort_string Tryz.sortS blk off cap ss W hH hblk hsz),
   fun p cap W => callsIn_wide.2 (AnyM.slices_Sort_string_none Tryz.sortS p cap W)⟩
theorem keys_call (mb : Option Nat) (W : World) : Calls Tryz.prog 48 #[.map mb] W fun e w' => e = .returned (.func (.func 80) #[] #[.pointer (some ⟨W.heap.size, 0, none⟩)]) ∧ w' = W.alloc (.cells #[.map mb] 66) :=
  (callsIn_wide (n := 5)).1 (AnyZ.keys_in Tryz.keysA Fence.wide 5 trivial rfl mb W)
theorem own_strs {w : World} {base : Nat} {v : Value} {l : List ByteArray} (h : w.ownsRow base 9 1 v l.length (l.map .string)) (hl : ∀ c ∈ l, c.size ≤ maxTx) : Lift.Own Rd.str (fun _ => True) w base 9 v l := by
  refine ⟨_, h, l.map (fun c => [.string c]), ?_, by simp, fun k c hk => ⟨[.string c], by simp [hk], rfl, hl c (List.mem_of_getElem? hk)⟩⟩
  clear h hl
  induction l with
  | nil => rfl
  | cons a l ih => simp [ih]
theorem sorted_call {w : World} {mb n : Nat} {L : List KV} (h : KMap Tryz.prog 9 9 w mb n L) (hr : Rising L) (hs : ∀ p ∈ L, p.1.size ≤ 40) (hn : n ≤ 1000000) :
    Calls Tryz.prog 47 #[.func (.func 80) #[] #[.pointer (some ⟨w.heap.size, 0, none⟩)]] (w.alloc (.cells #[.map (some mb)] 66)) fun e w' => ∃ (ao : Option Addr) (cap : Nat), e = .returned (.slice ao L.length cap) ∧
      Lift.Own Rd.str (fun _ => True) w' w.heap.size 9 (.slice ao L.length cap) (L.map (·.1)) ∧ Below w.heap.size w w' := by
  obtain ⟨D, hown, hperm⟩ := kmap_keys Tryz.underlying9 h hr (fun p hp => by have := hs p hp; unfold maxLen; omega)
  have hsz := hown.size_le
  have hbl := hown.lt
  have hseq : SeqGives Fence.wide 2 Tryz.prog 80 #[.pointer (some ⟨w.heap.size, 0, none⟩)] encStr (fun ss => ss.Perm (strKeys D)) (Maps.size D) (w.alloc (.cells #[.map (some mb)] 66)) :=
    AnyZ.keys_gives (ρ := Tryz.keysA_ren) { Tryz.keysA with } Fence.wide _ trivial rfl (by omega) w.heap.size mb n D _ (by simp) (by simp) (by
      obtain ⟨es, clock, hb, Ft, hs, hD⟩ := hown
      exact ⟨es, clock, (Below.heap_alloc _ _ mb hbl).trans hb, Ft, hs, hD⟩)
  have cS := AnyZ.sorted_in Tryz.sortedA Fence.wide 5 trivial trivial trivial trivial rfl (by omega) (sortsS _) (enters_of Tryz.func79 (by kernel_rfl) rfl) 80 #[.pointer (some ⟨w.heap.size, 0, none⟩)] trivial (enters_of Tryz.func80 (by kernel_rfl) rfl) _ _ (by unfold maxLen; omega) (by omega) _ hseq
  change CallsIn _ _ Tryz.prog 47 _ _ _ at cS
  refine ((callsIn_wide (n := 5)).1 cS).mono ?_
  rintro e w' ⟨v, ss, rfl, hS, hrow, hnil, hb⟩
  have hlen : ss.length = L.length := by rw [hS.length_eq, ← hperm.length_eq, List.length_map]
  have hrow2 := ownsRow_base_a hrow (show w.heap.size ≤ _ by simp)
  rw [kmap_sorted hr hperm hS, List.map_map, hlen] at hrow2
  have e1 : (encStr ∘ fun p : KV => bl p.1) = (fun p : KV => Value.string p.1) := by funext p; exact encStr_bl p.1
  rw [e1] at hrow2
  have hO : Lift.Own Rd.str (fun _ => True) w' w.heap.size 9 v (L.map (·.1)) := own_strs (by rw [List.length_map, List.map_map]; exact hrow2) (fun c hc => by
    obtain ⟨p, hp, rfl⟩ := List.mem_map.1 hc
    have := hs p hp; unfold maxTx; omega)
  obtain ⟨ao, cap, rfl⟩ := hO.form
  rw [List.length_map] at hO ⊢
  exact ⟨ao, cap, rfl, hO, ((Below.refl _ w).alloc (Nat.le_refl _) _).trans (hb.mono (by simp))⟩
end Go.Proofs.YtdebfnlnpfienaaGreatDoor
