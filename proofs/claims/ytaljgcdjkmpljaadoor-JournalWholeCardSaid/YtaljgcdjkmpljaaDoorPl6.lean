/- New, Image, Copy. -/
import Derived.Test.YtaljgcdjkmpljaaDoorPl5
import Derived.Deep.RegionHeld3
namespace Go.Proofs.YtaljgcdjkmpljaaDoor
open Go.RowKit Lift
set_option linter.unusedSimpArgs false
set_option linter.unusedVariables false

def secZ : Array Value := (List.replicate 64 (.int .u8 0)).toArray
theorem sec_row : (Tryd.prog.info? 79).map (fun i => (i.zero, i.size, i.bytes)) = some (some (.agg secZ), 64, 64) := by kernel_rfl
theorem u8_row : (Tryd.prog.info? 5).map (fun i => (i.zero, i.size, i.bytes)) = some (some (.int .u8 0), 1, 1) := by kernel_rfl
theorem secZ_get (k : Nat) (h : k < secZ.size) : secZ[k] = .int .u8 0 := by
  simp only [secZ, List.getElem_toArray, List.getElem_replicate]
theorem made_sec (n : Nat) : (madeCells secZ (n * 64)).toList = (List.replicate n (Cs zer)).flatten := by
  have h1 : madeCells secZ (n * 64) = (List.replicate (n * 64) (Value.int .u8 0)).toArray := by
    apply Array.ext
    · simp [madeCells]
    · intro i h1 h2
      have hz : secZ.size = 64 := by simp [secZ]
      have hm : i % 64 < secZ.size := by rw [hz]; exact Nat.mod_lt _ (by omega)
      simp only [madeCells, hz, Array.getElem_map, Array.getElem_range]
      rw [getElem!_pos secZ (i % 64) hm, secZ_get _ hm, List.getElem_toArray, List.getElem_replicate]
  rw [h1]
  have h2 : Cs zer = List.replicate 64 (Value.int .u8 0) := by simp only [Lib.byteCells, zer, List.map_replicate]; rfl
  rw [h2, List.flatten_replicate_replicate]
theorem run_mk (w : World) (n : Nat) (hn : n ≤ 8192) : (Instr.makeSlice 74 (.int .i64 (n : Int)) (.int .i64 (n : Int))).run Tryd.prog w = .ok (.slice (some ⟨w.heap.size, 0, none⟩) n n) (w.alloc (.cells (madeCells secZ (n * 64)) 79)) := by
  obtain ⟨i0, hi, hz0, hz1, hz2⟩ := info_parts sec_row
  have := run_makeSlice (P := Tryd.prog) w 74 79 i0 _ Tryd.underlying74 hi hz0 .i64 .i64 n n (by omega) (by omega) (by rw [hz1]; omega) (by rw [hz2]; omega) (by omega)
  rw [hz1] at this
  simpa [Value.cells] using this
theorem own_made_sec {w : World} {g n base : Nat} (hg : w.heap[g]? = some (.cells (madeCells secZ (n * 64)) 79 (0, 0))) (hb : base ≤ g) (hn : n ≤ 8192) :
    Own rSec (fun _ => True) w base 79 (.slice (some ⟨g, 0, none⟩) n n) (List.replicate n zer) := by
  refine ⟨(madeCells secZ (n * 64)).toList, ⟨?_, .inr ⟨g, n, _, ?_, hb, hg, by simp, by unfold maxLen; omega, size_madeCells _ _, ?_⟩⟩, ?_⟩
  · simp [size_madeCells, rSec]
  · simp
  · rw [List.length_replicate]; exact List.take_of_length_le (by simp [size_madeCells, rSec])
  · refine ⟨List.replicate n (Cs zer), made_sec n, by simp, fun k c hk => ⟨Cs zer, ?_, ?_⟩⟩
    · have := (List.getElem?_eq_some_iff.1 hk).1
      rw [List.getElem?_replicate, if_pos (by simpa using this)]
    · obtain ⟨h1, h2⟩ := List.getElem?_eq_some_iff.1 hk
      simp at h2
      subst h2
      exact ⟨rfl, zer_len⟩

def St.new (n : Nat) : St := { su := List.replicate n zer, no := List.replicate n zer, lo := [], fu := -1, off := false }
theorem raw_new {w : World} {base b s m n : Nat} (hs : w.heap[s]? = some (.cells (madeCells secZ (n * 64)) 79 (0, 0))) (hm : w.heap[m]? = some (.cells (madeCells secZ (n * 64)) 79 (0, 0)))
    (hb : w.heap[b]? = some (.cells #[.slice (some ⟨s, 0, none⟩) n n, .slice (some ⟨m, 0, none⟩) n n, .slice none 0 0, .int .i64 (-1), .bool false] 77 (0, 0)))
    (h1 : base ≤ s) (h2 : base ≤ m) (h3 : base ≤ b) (d1 : s ≠ b) (d2 : m ≠ b) (d3 : s ≠ m) (hn1 : 1 ≤ n) (hn : n ≤ 8192) : Raw base w ⟨b, s, m, n, n, .slice none 0 0⟩ (St.new n) where
  n1 := by simpa [St.new] using hn1
  n2 := by simpa [St.new] using hn
  sn := by simp [St.new]
  lat := by simp [St.new]
  fu1 := by simp [St.new]
  fu2 := by simp [St.new]
  blk := by simpa [plCells, St.new] using hb
  own1 := by simpa [St.new] using own_made_sec hs h1 hn
  own2 := by simpa [St.new] using own_made_sec hm h2 hn
  own3 := Own.nil _ _ _ _ _
  bb := h3
  a1 := d1
  a2 := d2
  a3 := d3
  a4 := by simp [Value.ownBlock]
  a5 := by simp [Value.ownBlock]
  a6 := by simp [Value.ownBlock]
  nil := fun _ => rfl
/-- A plate that is new. -/
def NewPost (st : St) (w : World) (e : Ending) (w' : World) : Prop := ∃ F, e = .returned (.tuple #[.pointer (some ⟨F.b, 0, none⟩), .int .i64 0]) ∧ Raw w.heap.size w' F st ∧ Below w.heap.size w w'
attribute [local go_sem ↓] run_mk
theorem new_end (w : World) (n : Nat) (h1 : 1 ≤ n) (h2 : n ≤ 8192) :
    Raw w.heap.size (((w.alloc (.cells (madeCells secZ (n * 64)) 79)).alloc (.cells (madeCells secZ (n * 64)) 79)).alloc (.cells #[.slice (some ⟨w.heap.size, 0, none⟩) n n, .slice (some ⟨w.heap.size + 1, 0, none⟩) n n, .slice none 0 0, .int .i64 (-1), .bool false] 77)).drew ⟨w.heap.size + 1 + 1, w.heap.size, w.heap.size + 1, n, n, .slice none 0 0⟩ (St.new n) ∧
    Raw w.heap.size (((w.alloc (.cells (madeCells secZ (n * 64)) 79)).alloc (.cells (madeCells secZ (n * 64)) 79)).alloc (.cells #[.slice (some ⟨w.heap.size + 1, 0, none⟩) n n, .slice (some ⟨w.heap.size, 0, none⟩) n n, .slice none 0 0, .int .i64 (-1), .bool false] 77)).drew ⟨w.heap.size + 1 + 1, w.heap.size + 1, w.heap.size, n, n, .slice none 0 0⟩ (St.new n) ∧
    ∀ c, Below w.heap.size w (((w.alloc (.cells (madeCells secZ (n * 64)) 79)).alloc (.cells (madeCells secZ (n * 64)) 79)).alloc (.cells c 77)).drew := by
  have hh : ∀ A B C : Obj, ((((w.alloc A).alloc B).alloc C).drew).heap[w.heap.size]? = some A ∧ ((((w.alloc A).alloc B).alloc C).drew).heap[w.heap.size + 1]? = some B ∧ ((((w.alloc A).alloc B).alloc C).drew).heap[w.heap.size + 1 + 1]? = some C := by
    intro A B C
    refine ⟨?_, ?_, ?_⟩
    · show (((w.alloc A).alloc B).alloc C).heap[_]? = _
      rw [heap_alloc_old _ _ (by simp; omega), heap_alloc2_old]
    · show (((w.alloc A).alloc B).alloc C).heap[_]? = _
      rw [heap_alloc_old _ _ (by simp), heap_alloc2_new]
    · show (((w.alloc A).alloc B).alloc C).heap[_]? = _
      have := heap_alloc_new ((w.alloc A).alloc B) C
      simpa using this
  refine ⟨?_, ?_, ?_⟩
  · obtain ⟨a, b, c⟩ := hh (.cells (madeCells secZ (n * 64)) 79) (.cells (madeCells secZ (n * 64)) 79) (.cells #[.slice (some ⟨w.heap.size, 0, none⟩) n n, .slice (some ⟨w.heap.size + 1, 0, none⟩) n n, .slice none 0 0, .int .i64 (-1), .bool false] 77)
    exact raw_new a b c (Nat.le_refl _) (by omega) (by omega) (by omega) (by omega) (by omega) h1 h2
  · obtain ⟨a, b, c⟩ := hh (.cells (madeCells secZ (n * 64)) 79) (.cells (madeCells secZ (n * 64)) 79) (.cells #[.slice (some ⟨w.heap.size + 1, 0, none⟩) n n, .slice (some ⟨w.heap.size, 0, none⟩) n n, .slice none 0 0, .int .i64 (-1), .bool false] 77)
    exact raw_new b a c (by omega) (Nat.le_refl _) (by omega) (by omega) (by omega) (by omega) h1 h2
  · intro c
    exact ((((Below.refl _ w).alloc (Nat.le_refl _) _).alloc (by simp) _).alloc (by simp; omega) _).drew
set_option maxHeartbeats 1000000 in
set_option maxRecDepth 100000 in
theorem new_any (w : World) (n : Nat) (h1 : 1 ≤ n) (h2 : n ≤ 8192) : Calls Tryd.prog 21 #[.int .i64 (n : Int)] w (NewPost (St.new n) w) := by
  have hd1 : decide ((n : Int) < 1) = false := by simp; omega
  have hd2 : decide ((8192 : Int) < (n : Int)) = false := by simp; omega
  go_enter Tryd.func21, Tryd.ntmps21
  go_wp2_with fail
  go_region_law fail
  all_goals
    go_wp2_with fail
    go_ret2
    first
      | exact ⟨⟨w.heap.size + 1 + 1, w.heap.size, w.heap.size + 1, n, n, .slice none 0 0⟩, rfl, (new_end w n h1 h2).1, (new_end w n h1 h2).2.2 _⟩
      | exact ⟨⟨w.heap.size + 1 + 1, w.heap.size + 1, w.heap.size, n, n, .slice none 0 0⟩, rfl, (new_end w n h1 h2).2.1, (new_end w n h1 h2).2.2 _⟩

theorem new_no (w : World) (x : Int) (h : x < 1 ∨ 8192 < x) : Calls Tryd.prog 21 #[.int .i64 x] w (fun e w' => e = .returned (.tuple #[.pointer none, .int .i64 2]) ∧ w = w') := by
  by_cases h1 : x < 1
  · have hd1 : decide (x < 1) = true := by simpa using h1
    go_enter Tryd.func21, Tryd.ntmps21
    go_wp2_with fail
    go_ret2
    exact ⟨rfl, rfl⟩
  · have hd1 : decide (x < 1) = false := by simpa using h1
    have hd2 : decide (8192 < x) = true := by simp; omega
    clear h h1
    go_enter Tryd.func21, Tryd.ntmps21
    go_wp2_with fail
    go_ret2
    exact ⟨rfl, rfl⟩

/-! ### Image -/
def StrPost (s : ByteArray) (w : World) (e : Ending) (w' : World) : Prop := e = .returned (.string s) ∧ Below w.heap.size w w'
def imageB (no : Secs) : ByteArray := ⟨no.flatten.toArray⟩
set_option maxHeartbeats 1000000 in
set_option maxRecDepth 100000 in
theorem image_any {base : Nat} {w : World} {F : Fp} {st : St} (h : Raw base w F st) : Calls Tryd.prog 13 #[.pointer (some ⟨F.b, 0, none⟩)] w (StrPost (imageB st.no) w) := by
  obtain ⟨c0, c1, c2, c3, c4⟩ := h.cells
  obtain ⟨i0, hi, hz0, hz1, hz2⟩ := info_parts u8_row
  have H := Lib.hid h
  have hn2 := h.n2
  have HI := Lib.hid hi
  have HZ0 := Lib.hid hz0
  have HZ1 := Lib.hid hz1
  have HZ2 := Lib.hid hz2
  have hlen : ∀ d ∈ st.no, d.length = 64 := fun d hd => by
    obtain ⟨k, hk⟩ := List.mem_iff_getElem?.1 hd
    exact (own_sec h.own2 hk).2.2
  have HL := Lib.hid hlen
  clear h hi hz0 hz1 hz2 hlen
  go_enter Tryd.func13, Tryd.ntmps13
  go_wp2_with (at_make; refine wpList_make_own _ rfl _ _ 32 rfl w.heap.size 5 i0 (.int .u8 0) 1 Tryd.underlying32 HI.out HZ0.out HZ1.out _ _ _ (64 * st.no.length) rfl rfl (by simp) (by rw [HZ2.out]; omega) (by unfold maxLen; omega) (Nat.le_refl _) ?_; intro w1 hO1 hg1; have R1 := H.out.kept (Kept.of_grown hg1) (fun k _ e => by cases e); have B1 : Below w.heap.size w w1 := (Kept.of_grown hg1).below (Nat.le_refl _) (fun k e => by cases e); obtain ⟨e0, e1, e2, e3, e4⟩ := R1.cells; have HR1 := Lib.hid R1; clear R1)
  go_loopw [3, 17] (fun v3 v17 wr => ∃ (k : Nat) (ao : Option Addr) (n cap : Nat), k ≤ st.no.length ∧ v17 = .int .i64 k ∧ v3 = .slice ao n cap ∧ Hid (n = k * 64) ∧ Hid (wr.ownsRow w.heap.size 5 1 (.slice ao n cap) n (Cs (st.no.take k).flatten)) ∧ Below w.heap.size w wr) (fun _ v17 _ => st.no.length - (intOf v17).toNat)
  case atStart => exact ⟨0, _, _, _, by omega, rfl, rfl, Lib.hid rfl, Lib.hid hO1, B1⟩
  case round =>
    obtain ⟨k, ao, n, cap, hk, rfl, rfl, hn, hO, hb⟩ := hrel
    have HR := Lib.hid (H.out.below hb)
    obtain ⟨d0, d1, d2, d3, d4⟩ := HR.out.cells
    by_cases hkl : k < st.no.length
    · obtain ⟨d, hd⟩ := some_at hkl
      obtain ⟨r1, _, h64⟩ := own_sec HR.out.own2 hd
      have HD := Lib.hid hd
      have H64 := Lib.hid h64
      have HR1 := Lib.hid r1
      have hkl2 : (k : Int) < (st.no.length : Int) := by omega
      have hlim : k ≤ 8192 := by omega
      have hbs := hb.size
      have hn3 : n ≤ 64 * 8192 := by have := hn.out; omega
      clear hd h64 r1
      go_wp2_with (at_builtin; refine wpList_append2 rfl _ _ 32 rfl w.heap.size 5 i0 (.int .u8 0) 1 1 Tryd.underlying32 HI.out HZ0.out HZ1.out HZ2.out rfl (by decide) _ _ _ rfl hO.out (some ⟨F.m, k * 64, none⟩) 64 64 (Cs d) rfl (by intro h; cases h) (by rw [cs_len, H64.out]) (fun a ha j u hu => by injection ha with ha; subst ha; rw [Addr.add_mid]; exact HR1.out j u hu) (cs_one d) (by unfold maxLen; omega) (by omega) hbs ?_; intro v5 w5 hO5 hg5 _ hw5; obtain ⟨ao5, cap5, rfl⟩ := own_form hO5)
      go_roundw
      case measure => simp [intOf]; omega
      case rel =>
        refine ⟨k + 1, ao5, _, cap5, by omega, by go_num, rfl, Lib.hid (by have := hn.out; omega), Lib.hid ?_, ?_⟩
        · rw [take_at2 HD.out]
          simpa [Lib.byteCells] using hO5
        · exact hb.trans (((Kept.of_grown hg5).below hbs (fun j hj => (hO.out.lt j hj.symm).1)))
    · obtain rfl : k = st.no.length := by omega
      have hst := own_string (P := Tryd.prog) hO.out 32 9 5 Tryd.underlying32 Tryd.underlying5 Tryd.underlying9
      rw [List.take_length] at hst
      go_wp2_with fail
      go_ret
      exact ⟨rfl, hb⟩
end Go.Proofs.YtaljgcdjkmpljaaDoor
