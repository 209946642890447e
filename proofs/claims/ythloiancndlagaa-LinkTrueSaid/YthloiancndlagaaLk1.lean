/- A link in memory; its small methods. -/
import Derived.Test.YthloiancndlagaaRows
import Derived.Handy
import Derived.Lib.Hide
import Derived.BigQuiet
import Derived.WalkSpells
import Derived.WalkLawsBesides
import Derived.Maps.AppendAt
import Derived.StillTailTactics
import Derived.Deep.RegionLaw
import Derived.Test.YthloiancndlagaaRd2
import Derived.Test.YthloiancndlagaaCrcW
namespace Go.Proofs.Ythloiancndlagaa
open Go.RowKit Lift
set_option linter.unusedSimpArgs false
set_option linter.unusedVariables false

abbrev Pk := ByteArray × Bool
def rPk : Rd Pk := (Rd.str).pair (Rd.bool)
def okPk (c : Pk) : Prop := c.1.size ≤ maxTx ∧ True
def cellsPk (c : Pk) : List Value := [.string c.1, .bool c.2]
def encPk (c : Pk) : Value := .agg #[.string c.1, .bool c.2]
theorem pk_get {S : Nat → Prop} {w : World} {ao : Option Addr} {l : List Pk} (h : SlAt rPk S w ao l) {k : Nat} {c : Pk} (hk : l[k]? = some c) :
    ∃ b off, ao = some ⟨b, off, none⟩ ∧ S b ∧ b < w.heap.size ∧ okPk c ∧ w.cell? ⟨b, off + k * 2, none⟩ = some (.string c.1) ∧ w.cell? ⟨b, off + k * 2 + 1, none⟩ = some (.bool c.2) := by
  obtain ⟨b, off, cs, rfl, hs, hlt, ⟨c0, d0, rfl, ⟨rfl, h0⟩, rfl⟩, hc⟩ := h.get hk
  exact ⟨b, off, rfl, hs, hlt, ⟨h0, trivial⟩, hc 0 _ rfl, hc 1 _ rfl⟩
theorem pk_rel (S : Nat → Prop) (w : World) (c : Pk) (h : okPk c) : rPk.rel S w (cellsPk c) c := by
  obtain ⟨h0, _⟩ := h
  exact ⟨[_], _, rfl, ⟨rfl, h0⟩, rfl⟩
theorem pk_inv {S : Nat → Prop} {w : World} {cs : List Value} {c : Pk} (h : rPk.rel S w cs c) : cs = cellsPk c ∧ okPk c := by
  obtain ⟨c0, d0, rfl, ⟨rfl, h0⟩, rfl⟩ := h
  exact ⟨rfl, ⟨h0, trivial⟩⟩
theorem pk_flat : Flat rPk := by
  intro S S' w w' cs c h
  obtain ⟨rfl, h2⟩ := pk_inv h
  exact pk_rel S' w' c h2
theorem pk_one : ∀ S w cs (c : Pk), rPk.rel S w cs c → ∀ u ∈ cs, u.oneCell' = true := by
  intro S w cs c h u hu
  obtain ⟨rfl, _⟩ := pk_inv h
  simp [cellsPk] at hu
  rcases hu with rfl | rfl <;> rfl
theorem pk_own {S : Nat → Prop} {w : World} {base : Nat} {e : TypeId} {g n cap : Nat} {l : List Pk} (h : Own rPk S w base e (.slice (some ⟨g, 0, none⟩) n cap) l) {k : Nat} {c : Pk} (hk : l[k]? = some c) : okPk c ∧ w.cell? ⟨g, k * 2, none⟩ = some (.string c.1) ∧ w.cell? ⟨g, k * 2 + 1, none⟩ = some (.bool c.2) := by
  obtain ⟨cs, h1, hc⟩ := h.at hk
  obtain ⟨rfl, hok⟩ := pk_inv h1
  exact ⟨hok, hc 0 _ rfl, hc 1 _ rfl⟩
theorem pk_each {S : Nat → Prop} {w : World} {ao : Option Addr} {l : List Pk} (h : SlAt rPk S w ao l) : ∀ c ∈ l, okPk c := by
  intro c hc
  obtain ⟨k, hk⟩ := List.mem_iff_getElem?.1 hc
  obtain ⟨_, _, _, _, _, h1, _⟩ := pk_get h hk
  exact h1
theorem pk_ne {c d : Pk} (h : c ≠ d) : ((c.1.toList == d.1.toList) = false) ∨ ((c.1.toList == d.1.toList) = true ∧ (c.2 == d.2) = false) := by
  have hext : c.1 = d.1 → c.2 = d.2 → c = d := fun x0 x1 => Prod.ext x0 (x1)
  by_cases e0 : c.1 = d.1
  · by_cases e1 : c.2 = d.2
    · exact absurd (hext e0 e1) h
    · exact .inr ((⟨(by rw [str_eq]; simpa using e0), by simpa using e1⟩))
  · exact .inl (by rw [str_eq]; simpa using e0)
theorem pk_info : (Try.prog.info? 55).map (fun i => (i.zero, i.size, i.bytes)) = some (some (.agg #[.string ByteArray.empty, .bool false]), 2, 24) := by kernel_rfl

structure StillH (P : Program) (ops : Array Oper) (w : World) (Q : Act → Prop) (rest : List Oper) (a : Act) : Prop where
  out : wpStill P ops w Q rest a
theorem still_h {P : Program} {ops : Array Oper} {w : World} {Q : Act → Prop} {a : Act} {o : Oper} {rest : List Oper}
    (h : ∀ K : Act → Prop, (∀ a, StillH P ops w Q rest a → K a) → if Region.wanted o (yielded ops a.tmps) then o.still P a w K else K (a.put o.dst undef)) : StillH P ops w Q (o :: rest) a :=
  ⟨wpStill_step fun K hK => h K fun a ha => hK a ha.out⟩
theorem still_end {P : Program} {ops : Array Oper} {w : World} {Q : Act → Prop} {a : Act} (h : Q a) : StillH P ops w Q [] a := ⟨h⟩

/-- A link at a block: its room, and its packets. -/
structure Lk (e : TypeId) (b : Nat) (v : Value) (room : Nat) (l : List Pk) (w : World) : Prop where
  lt : b < w.heap.size
  c0 : w.cell? ⟨b, 0, none⟩ = some (.int .i64 room)
  c1 : w.cell? ⟨b, 1, none⟩ = some v
  f1 : w.frozen? ⟨b, 1, none⟩ = false
  own : Own rPk (fun _ => True) w (b + 1) e v l
  le : l.length ≤ 1000
def foot (b : Nat) (v : Value) (k : Nat) : Prop := k = b ∨ some k = v.ownBlock
theorem Lk.foot_lt {e : TypeId} {b : Nat} {v : Value} {room : Nat} {l : List Pk} {w : World} (h : Lk e b v room l w) {k : Nat} (hk : foot b v k) : k < w.heap.size := by
  rcases hk with rfl | hk
  · exact h.lt
  · exact (h.own.lt k hk.symm).2
theorem Lk.kept {e : TypeId} {b : Nat} {v : Value} {room : Nat} {l : List Pk} {w w' : World} {X : Nat → Prop} (h : Lk e b v room l w) (hk : Kept X w w') (hx : ∀ k, foot b v k → ¬ X k) : Lk e b v room l w' := by
  refine ⟨Nat.lt_of_lt_of_le h.lt hk.size, ?_, ?_, ?_, ?_, h.le⟩
  · rw [hk.cell (p := ⟨b, 0, none⟩) h.lt (hx b (.inl rfl))]; exact h.c0
  · rw [hk.cell (p := ⟨b, 1, none⟩) h.lt (hx b (.inl rfl))]; exact h.c1
  · rw [hk.frozen (p := ⟨b, 1, none⟩) h.lt (hx b (.inl rfl))]; exact h.f1
  · exact h.own.flat pk_flat hk (fun k hk' => hx k (.inr hk'.symm))
/-- What a call leaves of a link. -/
def LkPost (e : TypeId) (b : Nat) (v : Value) (room : Nat) (l : List Pk) (r : Value) (w : World) (x : Ending) (w' : World) : Prop :=
  x = .returned r ∧ ∃ v', Lk e b v' room l w' ∧ Kept (foot b v) w w' ∧ ∀ k, foot b v' k → foot b v k ∨ w.heap.size ≤ k
/-- The place that a number names. -/
def atN (k : Int) (n : Nat) : Nat := (IntKind.u64.wrap k).toNat % n
theorem atN_facts (k : Int) (n : Nat) (h0 : 0 < n) (h1 : n ≤ 1000) : atN k n < n ∧ IntKind.u64.wrap (n : Int) = (n : Int) ∧ (IntKind.u64.wrap k).tmod (n : Int) = (atN k n : Int) ∧ wrap64 (atN k n : Int) = (atN k n : Int) := by
  obtain ⟨i, hi, e1, e2, e3⟩ := mod_index k n h0 (by omega)
  have h2 : 0 ≤ IntKind.u64.wrap k := by rw [IntKind.wrap_u64]; omega
  have : (IntKind.u64.wrap k).tmod (n : Int) = (atN k n : Int) := by
    obtain ⟨m, hm⟩ : ∃ m : Nat, IntKind.u64.wrap k = (m : Int) := ⟨(IntKind.u64.wrap k).toNat, by omega⟩
    unfold atN
    rw [hm, ← Int.ofNat_tmod]
    rfl
  rw [this] at e2
  have e4 : atN k n = i := by omega
  rw [e4]
  exact ⟨hi, e1, by rw [this, e4], e3⟩
set_option maxHeartbeats 1000000 in
set_option maxRecDepth 100000 in
theorem at_nil {b : Nat} {v : Value} {room : Nat} {w : World} (k : Int) (h : Lk 55 b v room [] w) :
    Calls Try.prog 30 #[.pointer (some ⟨b, 0, none⟩), .int .i64 k] w (fun e w' => e = .returned (.tuple #[.int .i64 0, .int .i64 10]) ∧ w = w') := by
  obtain ⟨ao, cap, rfl⟩ := h.own.form
  have c1 := h.c1
  clear h
  go_enter Try.func30, Try.ntmps30
  go_wp2_with fail
  go_ret2
  exact ⟨rfl, rfl⟩
set_option maxHeartbeats 1000000 in
set_option maxRecDepth 100000 in
theorem at_any {b : Nat} {v : Value} {room : Nat} {l : List Pk} {w : World} (k : Int) (h : Lk 55 b v room l w) (hl : 0 < l.length) :
    Calls Try.prog 30 #[.pointer (some ⟨b, 0, none⟩), .int .i64 k] w (fun e w' => e = .returned (.tuple #[.int .i64 (atN k l.length : Nat), .int .i64 0]) ∧ w = w') := by
  obtain ⟨ao, cap, rfl⟩ := h.own.form
  have c1 := h.c1
  obtain ⟨e0, e1, e2, e3⟩ := atN_facts k l.length hl h.le
  have hne : ¬ (l.length : Int) = 0 := by omega
  have hne1 : ((l.length : Int) == 0) = false := by rw [beq_eq_false_iff_ne]; exact hne
  clear h
  generalize atN k l.length = i at *
  go_enter Try.func30, Try.ntmps30
  go_wp2_with fail
  go_ret2
  exact ⟨by show Ending.returned (.tuple #[.int .i64 (wrap64 (i : Int)), .int .i64 0]) = _; rw [e3], rfl⟩
set_option maxHeartbeats 1000000 in
set_option maxRecDepth 100000 in
theorem at_nil_ref {b : Nat} {v : Value} {room : Nat} {w : World} (k : Int) (h : Lk 38 b v room [] w) :
    Calls Try.prog 11 #[.pointer (some ⟨b, 0, none⟩), .int .i64 k] w (fun e w' => e = .returned (.int .i64 (-1)) ∧ w = w') := by
  obtain ⟨ao, cap, rfl⟩ := h.own.form
  have c1 := h.c1
  clear h
  go_enter Try.func11, Try.ntmps11
  go_wp2_with fail
  go_ret
  exact ⟨rfl, rfl⟩
set_option maxHeartbeats 1000000 in
set_option maxRecDepth 100000 in
theorem at_ref {b : Nat} {v : Value} {room : Nat} {l : List Pk} {w : World} (k : Int) (h : Lk 38 b v room l w) (hl : 0 < l.length) :
    Calls Try.prog 11 #[.pointer (some ⟨b, 0, none⟩), .int .i64 k] w (fun e w' => e = .returned (.int .i64 (atN k l.length : Nat)) ∧ w = w') := by
  obtain ⟨ao, cap, rfl⟩ := h.own.form
  have c1 := h.c1
  obtain ⟨e0, e1, e2, e3⟩ := atN_facts k l.length hl h.le
  have hne : ¬ (l.length : Int) = 0 := by omega
  have hne1 : ((l.length : Int) == 0) = false := by rw [beq_eq_false_iff_ne]; exact hne
  clear h
  generalize atN k l.length = i at *
  go_enter Try.func11, Try.ntmps11
  go_wp2_with fail
  go_ret
  exact ⟨ret_int e3, rfl⟩
set_option maxHeartbeats 1000000 in
set_option maxRecDepth 100000 in
theorem len_any {b : Nat} {v : Value} {room : Nat} {l : List Pk} {w : World} (h : Lk 55 b v room l w) :
    Calls Try.prog 22 #[.pointer (some ⟨b, 0, none⟩)] w (fun e w' => e = .returned (.int .i64 (l.length : Nat)) ∧ w = w') := by
  obtain ⟨ao, cap, rfl⟩ := h.own.form
  have c1 := h.c1
  clear h
  go_enter Try.func22, Try.ntmps22
  go_wp2_with fail
  go_ret
  exact ⟨rfl, rfl⟩
def NilPost (e : TypeId) (b : Nat) (v : Value) (room : Nat) (w : World) (x : Ending) (w' : World) : Prop :=
  Lk e b (.slice none 0 0) room [] w' ∧ Kept (foot b v) w w'
theorem Lk.nil {e : TypeId} {b : Nat} {v : Value} {room : Nat} {l : List Pk} {w : World} (h : Lk e b v room l w) : Lk e b (.slice none 0 0) room [] (w.setCell ⟨b, 1, none⟩ (.slice none 0 0)) := by
  have c0 := h.c0; have c1 := h.c1; have f1 := h.f1; have hlt := h.lt
  exact ⟨by simpa using hlt, by simp [go_sem, c0], by simp [go_sem, c1], by simpa [go_sem] using f1, Own.nil _ _ _ _ _, by simp⟩
set_option maxHeartbeats 1000000 in
set_option maxRecDepth 100000 in
theorem clear_any {b : Nat} {v : Value} {room : Nat} {l : List Pk} {w : World} (h : Lk 55 b v room l w) :
    Calls Try.prog 21 #[.pointer (some ⟨b, 0, none⟩)] w (fun e w' => e = .returned (.tuple #[]) ∧ NilPost 55 b v room w e w') := by
  have c1 := h.c1
  have f1 := h.f1
  have HL := Lib.hid h
  clear h
  go_enter Try.func21, Try.ntmps21
  go_wp2_with fail
  go_end0
  exact ⟨rfl, HL.out.nil, Kept.setCell w (.inl rfl) _⟩
theorem Lk.made (e t : TypeId) (room : Nat) (w : World) : Lk e w.heap.size (.slice none 0 0) room [] (w.alloc (.cells #[.int .i64 room, .slice none 0 0] t)) :=
  ⟨by simp, by simp [go_sem], by simp [go_sem], by simp [go_sem], Own.nil _ _ _ _ _, by simp⟩
set_option maxHeartbeats 1000000 in
set_option maxRecDepth 100000 in
theorem new_no (room : Int) (hr : room < 1 ∨ 1000 < room) (w : World) : Calls Try.prog 7 #[.int .i64 room] w (fun e w' => e = .returned (.tuple #[.pointer none, .int .i64 2]) ∧ w = w') := by
  by_cases h1 : room < 1
  · have hd : decide (room < 1) = true := by simpa using h1
    clear hr
    go_enter Try.func7, Try.ntmps7
    go_wp2_with fail
    go_ret2
    exact ⟨rfl, rfl⟩
  · have h2 : 1000 < room := by omega
    have hd : decide (room < 1) = false := by simpa using h1
    have hd2 : decide (1000 < room) = true := by simpa using h2
    clear hr
    go_enter Try.func7, Try.ntmps7
    go_wp2_with fail
    go_ret2
    exact ⟨rfl, rfl⟩
set_option maxHeartbeats 1000000 in
set_option maxRecDepth 100000 in
theorem new_yes (room : Int) (h1 : 1 ≤ room) (h2 : room ≤ 1000) (w : World) : Calls Try.prog 7 #[.int .i64 room] w (fun e w' => e = .returned (.tuple #[.pointer (some ⟨w.heap.size, 0, none⟩), .int .i64 0]) ∧ w' = w.alloc (.cells #[.int .i64 room, .slice none 0 0] 51)) := by
  have hd : decide (room < 1) = false := by simp; omega
  have hd2 : decide (1000 < room) = false := by simp; omega
  clear h1 h2
  go_enter Try.func7, Try.ntmps7
  go_wp2_with fail
  go_ret2
  exact ⟨rfl, rfl⟩
set_option maxHeartbeats 1000000 in
set_option maxRecDepth 100000 in
theorem new_no_ref (room : Int) (hr : room < 1 ∨ 1000 < room) (w : World) : Calls Try.prog 8 #[.int .i64 room] w (fun e w' => e = .returned (.tuple #[.pointer none, .int .i64 2]) ∧ w = w') := by
  by_cases h1 : room < 1
  · have hd : decide (room < 1) = true := by simpa using h1
    clear hr
    go_enter Try.func8, Try.ntmps8
    go_wp2_with fail
    go_ret2
    exact ⟨rfl, rfl⟩
  · have h2 : 1000 < room := by omega
    have hd : decide (room < 1) = false := by simpa using h1
    have hd2 : decide (1000 < room) = true := by simpa using h2
    clear hr
    go_enter Try.func8, Try.ntmps8
    go_wp2_with fail
    go_ret2
    exact ⟨rfl, rfl⟩
set_option maxHeartbeats 1000000 in
set_option maxRecDepth 100000 in
theorem new_yes_ref (room : Int) (h1 : 1 ≤ room) (h2 : room ≤ 1000) (w : World) : Calls Try.prog 8 #[.int .i64 room] w (fun e w' => e = .returned (.tuple #[.pointer (some ⟨w.heap.size, 0, none⟩), .int .i64 0]) ∧ w' = w.alloc (.cells #[.int .i64 room, .slice none 0 0] 41)) := by
  have hd : decide (room < 1) = false := by simp; omega
  have hd2 : decide (1000 < room) = false := by simp; omega
  clear h1 h2
  go_enter Try.func8, Try.ntmps8
  go_wp2_with fail
  go_ret2
  exact ⟨rfl, rfl⟩
end Go.Proofs.Ythloiancndlagaa
