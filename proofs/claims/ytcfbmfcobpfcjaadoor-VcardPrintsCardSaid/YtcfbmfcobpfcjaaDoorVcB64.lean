/- Letters of six bits: the program's Encode (a loop over its own Lines, with a builder). -/
import Derived.Test.YtcfbmfcobpfcjaaDoorVcIter
import Derived.Test.YtcfbmfcobpfcjaaDoorVcSix
import Derived.Test.YtcfbmfcobpfcjaaDoorBKg
import Derived.Test.YtcfbmfcobpfcjaaDoorJoin
import Derived.Lib.LazyBuf
import Derived.Laws.BitsAllLaws
import Derived.Lib.OthersKept
namespace Go.Proofs.YtcfbmfcobpfcjaaDoor
open Go.RowKit Lift Go.Shelf
set_option linter.unusedSimpArgs false
set_option linter.unusedVariables false
attribute [local go_sem] Oper.semAt_some

theorem Buf.grown {b : Nat} {x : Option Nat} {l : List UInt8} {w w' : World} {row : Option Nat} (h : Buf b x l w) (hg : w.grownBy w' row) (hr : ∀ k, row = some k → ∃ o : Obj, w.heap[k]? = some o ∧ o.isCells = false) : Buf b x l w' := by
  have hh := h
  obtain ⟨p, v, hp, hbk, ho, rfl, hne⟩ := h
  refine hh.kept (Kept.of_grown hg) (fun e => ?_) (fun k hk e => ?_)
  · obtain ⟨o, h1, h2⟩ := hr b e.symm
    rw [hbk] at h1; cases h1; cases h2
  · obtain ⟨o, h1, h2⟩ := hr k e.symm
    rcases ho.2 with ⟨h3, h4⟩ | ⟨g, cap', cur, h3, hbg, hg3, _⟩
    · rw [h3] at hk; cases hk
    · rw [h3] at hk; cases hk
      rw [hg3] at h1; cases h1; cases h2
theorem Buf.cells {b : Nat} {x : Option Nat} {l : List UInt8} {w : World} (h : Buf b x l w) : ∀ k, (k = b ∨ some k = x) → ∀ o : Obj, w.heap[k]? = some o → o.isCells = true := by
  obtain ⟨p, v, hp, hbk, ho, rfl, hne⟩ := h
  rintro k (rfl | hk) o h1
  · rw [hbk] at h1; cases h1; rfl
  · rcases ho.2 with ⟨h3, h4⟩ | ⟨g, cap', cur, h3, hbg, hg3, _⟩
    · rw [h3] at hk; cases hk
    · rw [h3] at hk; cases hk
      rw [hg3] at h1; cases h1; rfl
theorem Kept.keeps {X : Nat → Prop} {w w' : World} (h : Kept X w w') (hX : ∀ k, X k → ∀ o : Obj, w.heap[k]? = some o → o.isCells = true) (B : Nat) : KeepsFrom B w w' :=
  ⟨h.size, fun k o _ hk ho => (h.block k (Array.getElem?_eq_some_iff.1 hk).1 (fun hx => by rw [hX k hx o hk] at ho; cases ho)).trans hk⟩
/-- What a loop that writes into a builder keeps, two blocks of an iterator's beside it. -/
structure BI (w w2 : World) (b2 b3 : Nat) (l : List UInt8) (W : World) : Prop where
  buf : ∃ x, Buf w.heap.size x l W ∧ ∀ j, x = some j → w.heap.size ≤ j ∧ j ≠ b2 ∧ j ≠ b3
  kept : Kept (fun b => b ≠ b2 ∧ b ≠ b3) w2 W
  below : Below w.heap.size w W
theorem BI.grown {w w2 W W' : World} {b2 b3 : Nat} {l : List UInt8} {row : Option Nat} (h : BI w w2 b2 b3 l W) (h2 : b2 < w2.heap.size) (h3 : b3 < w2.heap.size) (hw : w.heap.size ≤ w2.heap.size) (hg : W.grownBy W' row) (hr : ∀ r, row = some r → w2.heap.size ≤ r ∧ ∃ o : Obj, W.heap[r]? = some o ∧ o.isCells = false) : BI w w2 b2 b3 l W' := by
  obtain ⟨⟨x, hB, hx⟩, hk, hb⟩ := h
  exact ⟨⟨x, hB.grown hg (fun k e => (hr k e).2), hx⟩, hk.trans ((Kept.of_grown hg).wide (fun k _ e => by have := (hr k e.symm).1; exact ⟨by omega, by omega⟩)) (fun _ _ h => h) (fun _ _ h => h), hb.trans ((Kept.of_grown hg).below hb.size (fun k e => by have := (hr k e.symm).1; omega))⟩
theorem BI.next {w w2 W W' : World} {b2 b3 : Nat} {l : List UInt8} (h : BI w w2 b2 b3 l W) (hb' : Below W.heap.size W W') : BI w w2 b2 b3 l W' := by
  obtain ⟨⟨x, hB, hx⟩, hk, hb⟩ := h
  exact ⟨⟨x, hB.below hb', hx⟩, hk.step hb', hb.trans (hb'.mono hb.size)⟩
theorem BI.boxed {w w2 W W' : World} {b2 b3 : Nat} {l : List UInt8} (h : BI w w2 b2 b3 l W) (h2 : b2 < w2.heap.size) (h3 : b3 < w2.heap.size) (hw : w.heap.size < w2.heap.size) (cs : Array Value) (t : TypeId) (hk' : Kept (· = W.heap.size) (W.alloc (.cells cs t)) W') : BI w w2 b2 b3 l W' ∧ KeepsFrom w2.heap.size W W' := by
  obtain ⟨⟨x, hB, hx⟩, hk, hb⟩ := h
  have hz := hk.size
  have hA : Below W.heap.size W (W.alloc (.cells cs t)) := (Below.refl _ _).alloc (Nat.le_refl _) _
  have hlt := hB.lt.2
  refine ⟨⟨⟨x, (hB.below hA).kept hk' (by omega) (fun k hk e => by have := hlt k hk; omega), hx⟩, (hk.step hA).trans (hk'.wide (fun k _ e => ⟨by omega, by omega⟩)) (fun _ _ h => h) (fun _ _ h => h), (hb.trans (hA.mono hb.size)).trans (hk'.below (by have := hb.size; have := hA.size; omega) (fun k e => by have := hb.size; omega))⟩, ?_⟩
  refine (KeepsFrom.trans (Kept.keeps (Kept.of_below hA (fun _ => False)) (fun _ h => h.elim) _) (Kept.keeps hk' (fun k e o ho => ?_) _))
  subst e
  have := heap_alloc_new W (.cells cs t)
  rw [this] at ho; cases ho; rfl
theorem chunks_all {wd : Nat} (hw : 0 < wd) : ∀ (f : Nat) (s : ByteArray), s.size ≤ f → (chunks wd s).length ≤ s.size ∧ (∀ x ∈ chunks wd s, 1 ≤ x.size ∧ x.size ≤ wd) ∧ sumB (chunks wd s) = s.size
  | 0, s, h => by
    rw [chunks_nil wd s (by omega)]
    exact ⟨by simp, by simp, by simp [sumB]; omega⟩
  | f + 1, s, h => by
    by_cases h0 : s.size = 0
    · rw [chunks_nil wd s h0]
      exact ⟨by simp, by simp, by simp [sumB]; omega⟩
    · have e1 : (s.extract 0 (min wd s.size)).size = min wd s.size := by rw [ByteArray.size_extract]; omega
      have e2 : (s.extract (min wd s.size) s.size).size = s.size - min wd s.size := by rw [ByteArray.size_extract]; omega
      have ih := chunks_all hw f (s.extract (min wd s.size) s.size) (by omega)
      rw [chunks_step hw s h0, List.length_cons]
      refine ⟨by omega, fun x hx => ?_, ?_⟩
      · rcases List.mem_cons.1 hx with rfl | hx
        · omega
        · exact ih.2.1 x hx
      · have h3 := ih.2.2
        unfold sumB at h3 ⊢
        rw [List.map_cons, List.sum_cons, h3, e1, e2]; omega
theorem grp_len (p : ByteArray) (i : Nat) : (grp p i).length = 4 := rfl
theorem grps_flat (l : List ByteArray) : (l.map (fun p => grp p 0)).flatten.length = 4 * l.length := by
  induction l with
  | nil => rfl
  | cons a t ih => rw [List.map_cons, List.flatten_cons, List.length_append, ih, grp_len, List.length_cons]; omega
set_option maxRecDepth 10000 in
theorem word_or (b0 b1 b2 : Nat) (h0 : b0 < 256) (h1 : b1 < 256) (h2 : b2 < 256) :
    bits .or .u32 (bits .or .u32 ((b0 : Int) % 4294967296 * 65536 % 4294967296) ((b1 : Int) % 4294967296 * 256 % 4294967296)) ((b2 : Int) % 4294967296) = ((b0 * 65536 + b1 * 256 + b2 : Nat) : Int) := by
  have e0 : (b0 : Int) % 4294967296 * 65536 % 4294967296 = ((b0 * 65536 : Nat) : Int) := by omega
  have e1 : (b1 : Int) % 4294967296 * 256 % 4294967296 = ((b1 * 256 : Nat) : Int) := by omega
  have e2 : (b2 : Int) % 4294967296 = (b2 : Int) := by omega
  have q1 : b0 * 65536 ||| b1 * 256 = b0 * 65536 + b1 * 256 := by
    have := Nat.shiftLeft_add_eq_or_of_lt (i := 16) (b := b1 * 256) (by omega) b0
    rw [Nat.shiftLeft_eq] at this
    exact this.symm
  have q2 : (b0 * 65536 + b1 * 256) ||| b2 = b0 * 65536 + b1 * 256 + b2 := by
    have := Nat.shiftLeft_add_eq_or_of_lt (i := 8) (b := b2) (by omega) (b0 * 256 + b1)
    rw [Nat.shiftLeft_eq, show (b0 * 256 + b1) * 2 ^ 8 = b0 * 65536 + b1 * 256 by omega] at this
    exact this.symm
  rw [e0, e1, e2, u32_or_nat _ _ (by omega) (by omega), q1, u32_or_nat _ _ (by omega) (by omega), q2]
theorem BI.byte {w w2 W : World} {b2 b3 : Nat} {l : List UInt8} (h : BI w w2 b2 b3 l W) (h2 : b2 < w2.heap.size) (h3 : b3 < w2.heap.size) (n2 : w.heap.size ≠ b2) (n3 : w.heap.size ≠ b3) (hlen : l.length + 1 ≤ 140737488355328) (c : UInt8) :
    Calls Tryd.prog 65 #[.pointer (some ⟨w.heap.size, 0, none⟩), .int .u8 c.toNat] W fun e W' => e = .returned .nilIface ∧ BI w w2 b2 b3 (l ++ [c]) W' ∧ KeepsFrom w2.heap.size W W' := by
  obtain ⟨⟨x, hB, hx⟩, hk, hb⟩ := h
  refine (writeByte_any w.heap.size x l c W hB hlen).mono ?_
  rintro e w1 ⟨rfl, x1, hB1, hk1, hx1⟩
  have hz := hk.size
  refine ⟨rfl, ⟨⟨x1, hB1, fun j hj => ?_⟩, hk.trans (hk1.wide (fun k _ e => ?_)) (fun _ _ h => h) (fun _ _ h => h), hb.trans (hk1.below hb.size (fun k e => ?_))⟩, Kept.keeps hk1 hB.cells _⟩
  · rcases hx1 with h | ⟨g, h, hg⟩
    · exact hx j (by rw [← h]; exact hj)
    · rw [h] at hj; cases hj
      exact ⟨by have := hb.size; omega, by omega, by omega⟩
  · rcases e with rfl | e
    · exact ⟨n2, n3⟩
    · exact (hx k e.symm).2
  · rcases e with rfl | e
    · exact Nat.le_refl _
    · exact (hx k e.symm).1
theorem BI.text {w w2 W : World} {b2 b3 : Nat} {l : List UInt8} (h : BI w w2 b2 b3 l W) (h2 : b2 < w2.heap.size) (h3 : b3 < w2.heap.size) (n2 : w.heap.size ≠ b2) (n3 : w.heap.size ≠ b3) (s : ByteArray) (hlen : l.length + s.size ≤ 140737488355328) :
    Calls Tryd.prog 22 #[.pointer (some ⟨w.heap.size, 0, none⟩), .string s] W fun e W' => e = .returned (.tuple #[.int .i64 s.size, .nilIface]) ∧ BI w w2 b2 b3 (l ++ s.data.toList) W' ∧ KeepsFrom w2.heap.size W W' := by
  obtain ⟨⟨x, hB, hx⟩, hk, hb⟩ := h
  refine (writeString_any w.heap.size x l s W hB hlen).mono ?_
  rintro e w1 ⟨rfl, x1, hB1, hk1, hx1⟩
  have hz := hk.size
  refine ⟨rfl, ⟨⟨x1, hB1, fun j hj => ?_⟩, hk.trans (hk1.wide (fun k _ e => ?_)) (fun _ _ h => h) (fun _ _ h => h), hb.trans (hk1.below hb.size (fun k e => ?_))⟩, Kept.keeps hk1 hB.cells _⟩
  · rcases hx1 with h | ⟨g, h, hg⟩
    · exact hx j (by rw [← h]; exact hj)
    · rw [h] at hj; cases hj
      exact ⟨by have := hb.size; omega, by omega, by omega⟩
  · rcases e with rfl | e
    · exact ⟨n2, n3⟩
    · exact (hx k e.symm).2
  · rcases e with rfl | e
    · exact Nat.le_refl _
    · exact (hx k e.symm).1
theorem BI.string {w w2 W : World} {b2 b3 : Nat} {l : List UInt8} (h : BI w w2 b2 b3 l W) :
    Calls Tryd.prog 23 #[.pointer (some ⟨w.heap.size, 0, none⟩)] W fun e W' => e = .returned (.string ⟨l.toArray⟩) ∧ Below w.heap.size w W' ∧ ∀ D : Nat, W.heap[D]? = some (Obj.deferred (some [])) → W'.heap[D]? = some (Obj.deferred (some [])) := by
  obtain ⟨⟨x, hB, hx⟩, hk, hb⟩ := h
  refine (Tryd.Builder_String_any_k w.heap.size w.heap.size l W (hB.isB (Nat.le_refl _) (fun j hj => (hx j hj).1)) hb.size).mono ?_
  rintro e w1 ⟨rfl, _, hb1, ho⟩
  refine ⟨rfl, hb.trans hb1, fun D hD => ho D _ hD (fun e => ?_) (fun c fz e => by cases e)⟩
  have := hB.cells D (.inl (Option.some.inj e)) _ hD
  cases this
theorem copied (W : World) (t : TypeId) (x : ByteArray) (h : x.size ≤ 3) :
    (∀ i, i < 3 → ((W.alloc (.cells #[.int .u8 0, .int .u8 0, .int .u8 0] t)).setCells W.heap.size 0 (x.data.toList.map fun x => Value.int .u8 (x.toNat : Int))).cell? ⟨W.heap.size, i, none⟩ = some (.int .u8 (bN x i))) ∧
    Kept (· = W.heap.size) (W.alloc (.cells #[.int .u8 0, .int .u8 0, .int .u8 0] t)) ((W.alloc (.cells #[.int .u8 0, .int .u8 0, .int .u8 0] t)).setCells W.heap.size 0 (x.data.toList.map fun x => Value.int .u8 (x.toNat : Int))) := by
  have hl : x.data.toList.length = x.size := by simp
  unfold bN
  generalize x.data.toList = l at *
  have hk : ∀ (vs : List Value) (o : Nat) (w : World), Kept (· = W.heap.size) w (w.setCells W.heap.size o vs) := by
    intro vs
    induction vs with
    | nil => intro o w; exact Kept.refl _ _
    | cons v r ih => intro o w; exact ((Kept.setCell (X := (· = W.heap.size)) w (p := ⟨W.heap.size, o, none⟩) rfl v).trans (ih (o + 1) _) (fun _ _ h => h) (fun _ _ h => h))
  refine ⟨fun i hi => ?_, hk _ _ _⟩
  rcases l with _ | ⟨a, _ | ⟨b, _ | ⟨c, _ | ⟨d, r⟩⟩⟩⟩
  · rcases (by omega : i = 0 ∨ i = 1 ∨ i = 2) with rfl | rfl | rfl <;> simp [World.setCells, go_sem]
  · rcases (by omega : i = 0 ∨ i = 1 ∨ i = 2) with rfl | rfl | rfl <;> simp [World.setCells, go_sem]
  · rcases (by omega : i = 0 ∨ i = 1 ∨ i = 2) with rfl | rfl | rfl <;> simp [World.setCells, go_sem]
  · rcases (by omega : i = 0 ∨ i = 1 ∨ i = 2) with rfl | rfl | rfl <;> simp [World.setCells, go_sem]
  · simp at hl; omega

set_option maxRecDepth 100000 in
set_option maxHeartbeats 4000000 in
theorem b64_any (s : ByteArray) (hs : s.size ≤ 100000) (w : World) : Calls Tryd.prog 40 #[.string s] w (BelowPost (.string (sixB s)) w) := by
  have HL := Lib.hid (fun w => lines_any s 3 (by omega) (by omega) w)
  have hA : Below w.heap.size w (w.alloc (.cells #[.pointer none, .slice none 0 0] 50)) := (Below.refl _ w).alloc (Nat.le_refl _) _
  have HB0 := Lib.hid (Buf.fresh w)
  refine (callsIn_wide (n := 6)).1 (callsIn_of_wp_marks Tryd.func40 rfl trivial (wpIn_wide.2 ?_) rfl)
  simp only [Tryd.ntmps40, List.size_toArray, List.length_cons, List.length_nil, Nat.reduceAdd, Nat.reduceSub, Array.replicate_succ, Array.replicate_zero, List.push_toArray, List.append_toArray, List.nil_append, List.cons_append]
  go_wp2_with fail
  obtain ⟨W1, hW1⟩ : ∃ x, w.alloc (.cells #[.pointer none, .slice none 0 0] 50) = x := ⟨_, rfl⟩
  have HB1 := Lib.hid (show Buf w.heap.size none [] W1 from hW1 ▸ HB0.out)
  have hz1 : w.heap.size < W1.heap.size := by rw [← hW1]; simp
  rw [hW1]
  rw [hW1] at hA
  clear hW1 HB0
  have HA := Lib.hid hA
  have HZ1 := Lib.hid hz1
  clear hA hz1
  refine (HL.out _).mono ?_
  rintro e w2 ⟨b2, b3, rfl, p1, p2, p3, p4, p5, p6, p7⟩
  have HBk := Lib.hid (show BI w w2 b2 b3 [] w2 from ⟨⟨none, HB1.out.below p7, fun j h => by cases h⟩, Kept.refl _ _, HA.out.trans (p7.mono (by have := HZ1.out; omega))⟩)
  go_wp2_with fail
  have hz2 : W1.heap.size ≤ w2.heap.size := p7.size
  have hz1 := HZ1.out
  have P5 := Lib.hid p5
  have P6 := Lib.hid p6
  clear p7 p5 p6
  refine wpIn_wide (n := 6).1 ?_
  refine range_good (F := Fence.wide) rfl (by omega) (gf := 64) (lb := #[.pointer (some ⟨b2, 0, none⟩), .pointer (some ⟨b3, 0, none⟩)]) rfl trivial (enters_of Tryd.func64 (by kernel_rfl) rfl) (encs := encT) (fun _ => rfl)
    (fun J' => ∀ pre W, J' pre W → Kept (fun b => b ≠ b2 ∧ b ≠ b3) w2 W) (fun pre x => pre ++ [x] <+: chunks 3 s) (fun xs _ => xs = chunks 3 s) (fun _ _ _ _ h _ _ => h)
    (fun l J' W hg hY h0 => six1_good 5 (by omega) l b2 b3 (fun b => b ≠ b2 ∧ b ≠ b3) s hs 3 (by omega) (by omega) w2 J' hg W hY P5.out p3 (by simp) P6.out p4 (by simp) h0)
    (fun pre W => BI w w2 b2 b3 (pre.map (fun p => grp p 0)).flatten W) ?own
    HBk.out
    (fun l D rl rd hl hD h1 h2 => fun pre W h => h.1.kept)
    (fun x a' _ => a' = { tmps := #[.string s, undef, .string ⟨#[]⟩, .pointer (some ⟨w.heap.size, 0, none⟩), .string x, undef, undef, undef, undef, .string s, .func (.func 64) #[] #[.pointer (some ⟨b2, 0, none⟩), .pointer (some ⟨b3, 0, none⟩)], .string x, undef, undef, undef, undef, undef, undef, undef, undef, undef, undef, undef, undef, undef, undef, undef, undef, undef, undef, undef, undef, undef, undef, undef, undef, undef, undef, undef, undef, undef, undef, undef, undef, undef], defers := [] }) (fun x a' => fun _ _ _ _ h _ _ => h) ?assign ?body ?done
  case own => exact fun pre W W' row h hg hr => h.grown p3 p4 (by omega) hg hr
  case assign =>
    rintro lp pre x W K hK hok hKK
    simp only [encT]
    gi_wp2
    exact hKK _ _ (KeepsFrom.refl _ _) hK rfl
  case body =>
    rintro lp pre x a' W hlp hK hpre rfl
    have HK := Lib.hid hK
    have HP := Lib.hid hpre
    clear hK hpre
    have hall := chunks_all (wd := 3) (by omega) s.size s (Nat.le_refl _)
    have hmem : x ∈ chunks 3 s := HP.out.subset (by simp)
    have hx3 : x.size ≤ 3 := (hall.2.1 x hmem).2
    have hx1 : 1 ≤ x.size := (hall.2.1 x hmem).1
    have hpl : (pre.map (fun p => grp p 0)).flatten.length ≤ 400000 := by
      have h1 := HP.out.length_le
      rw [List.length_append] at h1
      rw [grps_flat]; omega
    have HX := Lib.hid (show ((pre ++ [x]).map (fun p => grp p 0)).flatten = (pre.map (fun p => grp p 0)).flatten ++ grp x 0 by simp)
    clear hall hmem
    obtain ⟨hc, hkc⟩ := copied W 77 x hx3
    have hbox := HK.out.boxed p3 p4 (by omega) _ _ hkc
    have hrun := run_copy_string (P := Tryd.prog) (ty := 3) (W.alloc (.cells #[.int .u8 0, .int .u8 0, .int .u8 0] 77)) 48 9 5 W.heap.size 0 3 3 x Tryd.underlying48 Tryd.sizeOf5 hx3 (fun j hj => by rcases (by omega : j = 0 ∨ j = 1 ∨ j = 2) with rfl | rfl | rfl <;> simp [go_sem]) (fun j hj => by rcases (by omega : j = 0 ∨ j = 1 ∨ j = 2) with rfl | rfl | rfl <;> simp [go_sem])
    have c0 := hc 0 (by omega); have c1 := hc 1 (by omega); have c2 := hc 2 (by omega)
    obtain ⟨W3, hW3⟩ : ∃ y, (W.alloc (.cells #[.int .u8 0, .int .u8 0, .int .u8 0] 77)).setCells W.heap.size 0 (x.data.toList.map fun x => Value.int .u8 (x.toNat : Int)) = y := ⟨_, rfl⟩
    rw [hW3] at hrun hbox c0 c1 c2
    clear hc hkc hW3
    have hw := word_or (bN x 0) (bN x 1) (bN x 2) (UInt8.toNat_lt _) (UInt8.toNat_lt _) (UInt8.toNat_lt _)
    obtain ⟨wv, hwv⟩ : ∃ n, wordN x 0 = n := ⟨_, rfl⟩
    have HWV := Lib.hid hwv
    rw [show bN x 0 * 65536 + bN x 1 * 256 + bN x 2 = wv from hwv] at hw
    have hwl : wv < 16777216 := by
      have l0 : bN x 0 < 256 := UInt8.toNat_lt _
      have l1 : bN x 1 < 256 := UInt8.toNat_lt _
      have l2 : bN x 2 < 256 := UInt8.toNat_lt _
      have : wordN x 0 = bN x 0 * 65536 + bN x 1 * 256 + bN x 2 := rfl
      omega
    obtain ⟨acc, hacc⟩ : ∃ l, (pre.map (fun p => grp p 0)).flatten = l := ⟨_, rfl⟩
    rw [hacc] at hbox hpl HX
    have HACC := Lib.hid hacc
    clear hwv hacc
    gi_wp2
    gi_loopw [28] (fun v28 wr => ∃ k : Nat, k ≤ 4 ∧ v28 = .int .i64 k ∧ Hid (BI w w2 b2 b3 (acc ++ (grp x 0).take k) wr) ∧ Hid (KeepsFrom w2.heap.size W wr)) (fun v28 _ => 4 - (intOf v28).toNat)
    case atStart => exact ⟨0, by omega, rfl, Lib.hid (by simpa using hbox.1), Lib.hid hbox.2⟩
    case round =>
      obtain ⟨k, hk, rfl, HB, HF⟩ := hrel
      have hn2 : w.heap.size ≠ b2 := by omega
      have hn3 : w.heap.size ≠ b3 := by omega
      have HC := Lib.hid (fun c => HB.out.byte p3 p4 hn2 hn3 (by rw [List.length_append, List.length_take]; omega) c)
      have HGA := Lib.hid (fun hk => grp_at x 0 k hk)
      have HFK := Lib.hid (fun (W' : World) (h : KeepsFrom w2.heap.size wr W') => HF.out.trans h)
      rcases (by omega : k = 4 ∨ k < 4) with rfl | hk4
      · clear HC HGA HFK
        gi_wp2
        exact ⟨HF.out, by rw [HACC.out]; exact HB.out⟩
      · have hk4z : (k : Int) < 4 := by omega
        by_cases hg : x.size < k
        · have hgz : (x.size : Int) < (k : Int) := by omega
          have hv : sixV x 0 k = 61 := by unfold sixV; rw [if_pos (by omega)]
          have HV := Lib.hid (show acc ++ (grp x 0).take (k + 1) = (acc ++ (grp x 0).take k) ++ [61] by rw [HGA.out hk4, hv, List.append_assoc])
          clear hv HGA
          gi_wp2
          refine ⟨trivial, (CallsIn.inRound lp (callsIn_wide.2 (HC.out 61))).mono ?_⟩
          rintro e W4 ⟨rfl, hB4, hF4⟩
          have HB4 := Lib.hid (show BI w w2 b2 b3 (acc ++ (grp x 0).take (k + 1)) W4 by rw [HV.out]; exact hB4)
          have HF4 := Lib.hid (HFK.out W4 hF4)
          clear hB4 hF4
          gi_wp2
          go_roundw
          case measure => simp [intOf]; omega
          case rel => exact ⟨k + 1, by omega, by go_num, HB4, HF4⟩
        · have hgz : ¬ (x.size : Int) < (k : Int) := by omega
          have hv : sixV x 0 k = letC (sextN x 0 k) := by unfold sixV; rw [if_neg (by omega)]
          have hS : bits .and .u32 ((wv : Int) / 2 ^ (18 - 6 * k)) 63 = ((sextN x 0 k : Nat) : Int) := by
            have e1 : ((wv : Int) / 2 ^ (18 - 6 * k)) = ((wv / 2 ^ (18 - 6 * k) : Nat) : Int) := by rw [Int.natCast_ediv, Int.natCast_pow]; rfl
            have e2 : wv / 2 ^ (18 - 6 * k) ≤ wv := Nat.div_le_self _ _
            have e3 := Nat.and_two_pow_sub_one_eq_mod (wv / 2 ^ (18 - 6 * k)) 6
            rw [e1, show (63 : Int) = ((63 : Nat) : Int) from rfl, u32_and_nat _ _ (by omega) (by omega), show 63 = 2 ^ 6 - 1 by decide, e3]
            unfold sextN
            rw [HWV.out]
          have hSl : sextN x 0 k < 64 := by unfold sextN; omega
          obtain ⟨S, hSe⟩ : ∃ n, sextN x 0 k = n := ⟨_, rfl⟩
          rw [hSe] at hS hSl hv
          obtain ⟨hn, hkl⟩ := kLet_at S hSl
          have HV := Lib.hid (show acc ++ (grp x 0).take (k + 1) = (acc ++ (grp x 0).take k) ++ [kLet[S]'hn] by rw [HGA.out hk4, hv, hkl, List.append_assoc])
          have hSz : (S : Int) < 64 := by omega
          clear hv HGA hSe hkl
          gi_wp2
          refine ⟨trivial, (CallsIn.inRound lp (callsIn_wide.2 (HC.out (kLet[S]'hn)))).mono ?_⟩
          rintro e W4 ⟨rfl, hB4, hF4⟩
          have HB4 := Lib.hid (show BI w w2 b2 b3 (acc ++ (grp x 0).take (k + 1)) W4 by rw [HV.out]; exact hB4)
          have HF4 := Lib.hid (HFK.out W4 hF4)
          clear hB4 hF4
          gi_wp2
          go_roundw
          case measure => simp [intOf]; omega
          case rel => exact ⟨k + 1, by omega, by go_num, HB4, HF4⟩
  case done =>
    rintro D xs W hD hxs hK hDf
    subst hxs
    have HX := Lib.hid (show (⟨((chunks 3 s).map (fun p => grp p 0)).flatten.toArray⟩ : ByteArray) = sixB s from (sixB_pieces s).symm)
    have HKs := Lib.hid hK.string
    clear hK
    go_wp2_with fail
    refine HKs.out.mono ?_
    rintro e w3 ⟨rfl, hb3, hd3⟩
    have hD3 := hd3 D hDf
    go_wp2_with fail
    refine ⟨by simp, .inl ⟨_, _, rfl, run_takeDeferred hD3, ?_⟩⟩
    refine ⟨.string ⟨((chunks 3 s).map (fun p => grp p 0)).flatten.toArray⟩, by simp [results, Tryd.f40, go_sem], ?_⟩
    exact ⟨by rw [HX.out], hb3.trans ((Kept.of_grown (grownBy_putObj' w3 D (.deferred none))).below hb3.size (fun k e => by cases e; omega))⟩
end Go.Proofs.YtcfbmfcobpfcjaaDoor
