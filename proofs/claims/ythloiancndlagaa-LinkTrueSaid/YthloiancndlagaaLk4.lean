/- A link: out, Take, Drop. -/
import Derived.Test.YthloiancndlagaaLk3
import Derived.RangeFuncRecord
import Derived.Laws.ResultCell
import Derived.Laws.NewBlocks
namespace Go.Proofs.Ythloiancndlagaa
open Go.RowKit Lift
set_option linter.unusedSimpArgs false
set_option linter.unusedVariables false

theorem new_at (W : World) (o : Obj) (k : Nat) (h : k = W.heap.size) : (W.alloc o).heap[k]? = some o := by subst h; exact World.alloc_heap_new W o
theorem cell_of {W : World} {b k : Nat} {cs : Array Value} {e : TypeId} {v : Value} (h : W.heap[b]? = some (.cells cs e (0, 0))) (hk : cs[k]? = some v) : W.cell? ⟨b, k, none⟩ = some v := by simp [World.cell?, h, hk]
theorem free_of {W : World} {b k : Nat} {cs : Array Value} {e : TypeId} (h : W.heap[b]? = some (.cells cs e (0, 0))) : W.frozen? ⟨b, k, none⟩ = false := by simp [World.frozen?, h]
def zPk : Pk := (ByteArray.empty, false)
set_option maxHeartbeats 4000000 in
set_option maxRecDepth 100000 in
theorem out_nil {b : Nat} {v : Value} {room : Nat} {w : World} (k : Int) (h : Lk 55 b v room [] w) :
    Calls Try.prog 26 #[.pointer (some ⟨b, 0, none⟩), .int .i64 k] w (LkPost 55 b v room [] (.tuple #[.agg #[.string ByteArray.empty, .bool false], .int .i64 10]) w) := by
  have hri := pk_info
  have hb1 : Below w.heap.size w (w.alloc (.cells #[.string ByteArray.empty, .bool false] 55)) := (Below.refl _ _).alloc (Nat.le_refl _) _
  have HA := Lib.hid (at_nil k (h.step hb1))
  have HH := Lib.hid h
  have HB := Lib.hid hb1
  clear h hb1
  go_enter Try.func26, Try.ntmps26
  go_wp2_with fail
  refine HA.out.mono ?_
  rintro e w1 ⟨rfl, rfl⟩
  go_wp2_with fail
  refine bodyPost_ret_by (by rw [results_cell_tmp rfl]; go_simp; rfl) rfl ?_
  exact ⟨rfl, v, HH.out.step HB.out, Kept.of_below HB.out _, fun k hk => .inl hk⟩
set_option maxHeartbeats 4000000 in
set_option maxRecDepth 100000 in
theorem out_some {b : Nat} {v : Value} {room : Nat} {l : List Pk} {w : World} (k : Int) (p : Pk) (hl : 0 < l.length) (hp : l[atN k l.length]? = some p) (h : Lk 55 b v room l w) :
    Calls Try.prog 26 #[.pointer (some ⟨b, 0, none⟩), .int .i64 k] w (LkPost 55 b v room (l.eraseIdx (atN k l.length)) (.tuple #[.agg #[.string p.1, .bool p.2], .int .i64 0]) w) := by
  have hri := pk_info
  have hle := h.le
  obtain ⟨hi, _, _, _⟩ := atN_facts k l.length hl hle
  obtain ⟨n, hn⟩ : ∃ n, l.length = n + 1 := ⟨l.length - 1, by omega⟩
  have hb1 : Below w.heap.size w (w.alloc (.cells #[.string ByteArray.empty, .bool false] 55)) := (Below.refl _ _).alloc (Nat.le_refl _) _
  have HA := Lib.hid (at_any k (h.step hb1) hl)
  obtain ⟨ao, cap, rfl⟩ := h.own.form
  obtain ⟨g0, off, hao, _, hgl, hok, y0, y1⟩ := pk_get h.own.here hp
  obtain ⟨g, hao'⟩ := h.own.block (by rw [hao]; simp [Value.ownBlock])
  rw [hao'] at hao
  simp only [Option.some.injEq, Addr.mk.injEq, and_true] at hao
  obtain ⟨rfl, rfl⟩ := hao
  subst hao'
  have hbg : b < g := by have := (h.own.lt g rfl).1; omega
  have hblt := h.lt
  have c1 := h.c1
  have f1 := h.f1
  rw [hn] at HA c1 h hi y0 y1 ⊢
  simp only [Nat.zero_add] at y0 y1
  generalize atN k (n + 1) = i at *
  -- the world behind the boxes
  obtain ⟨W2, hW2, hb2, hz2, q0, q1, A0, A1, G0, G1⟩ : ∃ W2, (w.alloc (.cells #[.string ByteArray.empty, .bool false] 55)).alloc (.cells #[.string p.1, .bool p.2] 55) = W2 ∧ Below w.heap.size w W2 ∧ W2.heap.size = w.heap.size + 1 + 1 ∧ W2.cell? ⟨w.heap.size + 1, 0, none⟩ = some (.string p.1) ∧ W2.cell? ⟨w.heap.size + 1, 1, none⟩ = some (.bool p.2) ∧
      W2.cell? ⟨w.heap.size, 0, none⟩ = some (.string ByteArray.empty) ∧ W2.cell? ⟨w.heap.size, 1, none⟩ = some (.bool false) ∧ W2.frozen? ⟨w.heap.size, 0, none⟩ = false ∧ W2.frozen? ⟨w.heap.size, 1, none⟩ = false :=
    ⟨_, rfl, hb1.alloc (by simp) _, by simp, by simp [go_sem], by simp [go_sem], by simp [go_sem], by simp [go_sem], by simp [go_sem], by simp [go_sem]⟩
  have hL2 := h.step hb2
  have HD := Lib.hid (delete_any (b + 1) g cap i n l W2 hn (by omega) (by omega) (by have := hL2.own; rwa [hn]))
  have HL2 := Lib.hid hL2
  have HB2 := Lib.hid hb2
  have HN := Lib.hid hn
  have d1 := hL2.c1
  have hi1 : (i : Int) < (n : Int) + 1 := by omega
  have hi2 : i ≤ 1000 := by omega
  have hn1000 : n + 1 ≤ 1000 := by omega
  clear h hL2 hb1 hb2 hp hok hn
  go_enter Try.func26, Try.ntmps26
  go_wp2_with fail
  refine HA.out.mono ?_
  rintro e w1 ⟨rfl, rfl⟩
  go_wp2_with fail
  refine HD.out.mono ?_
  rintro e w3 ⟨rfl, hO3, hK3⟩
  have hs3 := hK3.size
  have e1 := (hK3.cell (p := ⟨b, 1, none⟩) (by show b < _; omega) (by show ¬ b = g; omega)).trans d1
  have e1f := (hK3.frozen (p := ⟨b, 1, none⟩) (by show b < _; omega) (by show ¬ b = g; omega)).trans HL2.out.f1
  have u0 := (hK3.cell (p := ⟨w.heap.size + 1, 0, none⟩) (by show w.heap.size + 1 < _; omega) (by show ¬ w.heap.size + 1 = g; omega)).trans q0
  have u1 := (hK3.cell (p := ⟨w.heap.size + 1, 1, none⟩) (by show w.heap.size + 1 < _; omega) (by show ¬ w.heap.size + 1 = g; omega)).trans q1
  have a0 := (hK3.cell (p := ⟨w.heap.size, 0, none⟩) (by show w.heap.size < _; omega) (by show ¬ w.heap.size = g; omega)).trans A0
  have a1 := (hK3.cell (p := ⟨w.heap.size, 1, none⟩) (by show w.heap.size < _; omega) (by show ¬ w.heap.size = g; omega)).trans A1
  have f0 := (hK3.frozen (p := ⟨w.heap.size, 0, none⟩) (by show w.heap.size < _; omega) (by show ¬ w.heap.size = g; omega)).trans G0
  have f1' := (hK3.frozen (p := ⟨w.heap.size, 1, none⟩) (by show w.heap.size < _; omega) (by show ¬ w.heap.size = g; omega)).trans G1
  have hR := HL2.out.put (v' := .slice (some ⟨g, 0, none⟩) n cap) (hK3.wide (fun k _ hk => by rw [show k = g from hk]; rfl)) hO3 (by rw [List.length_eraseIdx, HN.out]; split <;> omega) (.inl rfl)
  have HR := Lib.hid hR
  have hne1 : ¬ b = w.heap.size := by omega
  have hne2 : ¬ w.heap.size = b := by omega
  have hne3 : ¬ b = w.heap.size + 1 := by omega
  have hne4 : ¬ w.heap.size + 1 = b := by omega
  clear hR hO3 hK3 d1 q0 q1 A0 A1 G0 G1 hW2 y0 y1 c1 f1
  go_wp2_with fail
  refine bodyPost_ret_by (by rw [results_cell_tmp rfl]; go_simp; rfl) rfl ?_
  obtain ⟨r1, r2, r3⟩ := HR.out
  refine ⟨rfl, .slice (some ⟨g, 0, none⟩) n cap, r1.kept (X := fun k => k = w.heap.size) ((Kept.set (p := ⟨w.heap.size, 0, none⟩) (Kept.refl (fun k => k = w.heap.size) _) rfl).set (p := ⟨w.heap.size, 1, none⟩) rfl) ?_, ?_, ?_⟩
  · intro k hk e
    rcases hk with rfl | hk
    · exact hne1 e
    · have : k = g := by injection hk
      omega
  · have h9 : Kept (fun k => foot b (.slice (some ⟨g, 0, none⟩) (n + 1) cap) k ∨ k = w.heap.size) w _ := ((((Kept.of_below HB2.out (fun _ => False)).trans r2 (fun _ _ h => h.elim) (fun _ _ h => .inl h)).set (p := ⟨w.heap.size, 0, none⟩) (u := .string p.1) (.inr rfl)).set (p := ⟨w.heap.size, 1, none⟩) (u := .bool p.2) (.inr rfl))
    exact h9.wide (fun k hk h => h.elim id (fun e => by omega))
  · intro k hk
    exact (r3 k hk).imp id (fun h => Nat.le_trans HB2.out.size h)
/-- What is left where one is taken. -/
def goneL (k : Int) (l : List Pk) : List Pk := if 0 < l.length then l.eraseIdx (atN k l.length) else l
def goneE (l : List Pk) : Int := if 0 < l.length then 0 else 10
def goneP (k : Int) (l : List Pk) : Pk := (l[atN k l.length]?).getD zPk
theorem gone_none (k : Int) : goneL k [] = [] ∧ goneE [] = 10 ∧ goneP k [] = zPk := ⟨rfl, rfl, rfl⟩
theorem gone_some {l : List Pk} (k : Int) (h : 0 < l.length) (h2 : l.length ≤ 1000) : ∃ p, l[atN k l.length]? = some p ∧ goneL k l = l.eraseIdx (atN k l.length) ∧ goneE l = 0 ∧ goneP k l = p := by
  obtain ⟨hi, _⟩ := atN_facts k l.length h h2
  exact ⟨l[atN k l.length], List.getElem?_eq_getElem hi, if_pos h, if_pos h, by unfold goneP; rw [List.getElem?_eq_getElem hi]; rfl⟩
theorem out_any {b : Nat} {v : Value} {room : Nat} {l : List Pk} {w : World} (k : Int) (h : Lk 55 b v room l w) :
    Calls Try.prog 26 #[.pointer (some ⟨b, 0, none⟩), .int .i64 k] w (LkPost 55 b v room (goneL k l) (.tuple #[.agg #[.string (goneP k l).1, .bool (goneP k l).2], .int .i64 (goneE l)]) w) := by
  by_cases hl : 0 < l.length
  · obtain ⟨p, h1, h2, h3, h4⟩ := gone_some k hl h.le
    rw [h2, h3, h4]
    exact out_some k p hl h1 h
  · obtain rfl : l = [] := List.length_eq_zero_iff.1 (by omega)
    exact out_nil k h
def takeS (k : Int) (l : List Pk) : ByteArray := if 0 < l.length then Crc.openS (goneP k l).1 else ByteArray.empty
def takeB (k : Int) (l : List Pk) : Bool := if 0 < l.length then Crc.openB (goneP k l).1 else false
theorem Lk.text {e : TypeId} {b : Nat} {v : Value} {room : Nat} {l : List Pk} {w : World} (h : Lk e b v room l w) {i : Nat} {p : Pk} (hp : l[i]? = some p) : okPk p := by
  obtain ⟨ao, cap, rfl⟩ := h.own.form
  obtain ⟨_, _, _, _, _, hok, _⟩ := pk_get h.own.here hp
  exact hok
set_option maxHeartbeats 4000000 in
set_option maxRecDepth 100000 in
theorem take_any {b : Nat} {v : Value} {room : Nat} {l : List Pk} {w : World} (k : Int) (hs : ∀ p ∈ l, p.1.size ≤ 12002) (h : Lk 55 b v room l w) :
    Calls Try.prog 12 #[.pointer (some ⟨b, 0, none⟩), .int .i64 k] w (LkPost 55 b v room (goneL k l) (.tuple #[.string (takeS k l), .bool (takeB k l), .int .i64 (goneE l)]) w) := by
  have HO := Lib.hid (out_any k h)
  by_cases hl : 0 < l.length
  · obtain ⟨p, h1, h2, h3, h4⟩ := gone_some k hl h.le
    have hps : p.1.size ≤ 12002 := hs p (List.mem_of_getElem? h1)
    have e1 : takeS k l = Crc.openS p.1 := by unfold takeS; rw [if_pos hl, h4]
    have e2 : takeB k l = Crc.openB p.1 := by unfold takeB; rw [if_pos hl, h4]
    rw [e1, e2, h3]
    rw [h3, h4] at HO
    have HP := Lib.hid (fun w' => open_any p.1 w' (by omega))
    clear h hs h1 h2 h3 h4 e1 e2
    go_enter Try.func12, Try.ntmps12
    go_wp2_with fail
    refine HO.out.mono ?_
    rintro e w1 ⟨rfl, v1, hL1, hK1, hf1⟩
    go_wp2_with fail
    refine (HP.out _).mono ?_
    rintro e w2 ⟨rfl, hb2⟩
    go_wp2_with fail
    go_ret3
    have hb3 : Below w1.heap.size w1 w2 := ((Below.refl _ w1).alloc (Nat.le_refl _) _).trans (hb2.mono (by simp))
    exact ⟨rfl, v1, hL1.step hb3, hK1.step hb3, hf1⟩
  · obtain rfl : l = [] := List.length_eq_zero_iff.1 (by omega)
    obtain ⟨g1, g2, g3⟩ := gone_none k
    rw [g1, g2, g3] at HO
    rw [g1, g2]
    have e1 : takeS k [] = ByteArray.empty := rfl
    have e2 : takeB k [] = false := rfl
    rw [e1, e2]
    unfold zPk at HO
    clear h hs hl g1 g2 g3 e1 e2
    go_enter Try.func12, Try.ntmps12
    go_wp2_with fail
    refine HO.out.mono ?_
    rintro e w1 ⟨rfl, v1, hL1, hK1, hf1⟩
    go_wp2_with fail
    go_ret3
    have hb3 : Below w1.heap.size w1 (w1.alloc (.cells #[.string ByteArray.empty, .bool false] 55)) := (Below.refl _ w1).alloc (Nat.le_refl _) _
    exact ⟨rfl, v1, hL1.step hb3, hK1.step hb3, hf1⟩
set_option maxHeartbeats 1000000 in
set_option maxRecDepth 100000 in
theorem drop_any {b : Nat} {v : Value} {room : Nat} {l : List Pk} {w : World} (k : Int) (h : Lk 55 b v room l w) :
    Calls Try.prog 15 #[.pointer (some ⟨b, 0, none⟩), .int .i64 k] w (LkPost 55 b v room (goneL k l) (.int .i64 (goneE l)) w) := by
  have HO := Lib.hid (out_any k h)
  clear h
  generalize goneL k l = l' at *
  generalize goneE l = E at *
  generalize goneP k l = p at *
  go_enter Try.func15, Try.ntmps15
  go_wp2_with fail
  refine HO.out.mono ?_
  rintro e w1 ⟨rfl, v1, hL1, hK1, hf1⟩
  go_wp2_with fail
  go_ret
  have hb3 : Below w1.heap.size w1 (w1.alloc (.cells #[.string p.1, .bool p.2] 55)) := (Below.refl _ w1).alloc (Nat.le_refl _) _
  exact ⟨rfl, v1, hL1.step hb3, hK1.step hb3, hf1⟩
end Go.Proofs.Ythloiancndlagaa
