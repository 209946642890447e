/- Two links, side by side. -/
import Derived.Test.YthloiancndlagaaLk8
namespace Go.Proofs.Ythloiancndlagaa
open Go.RowKit Lift Crc
set_option linter.unusedSimpArgs false
set_option linter.unusedVariables false

def okL (l : List Pk) : Prop := ∀ p ∈ l, 2 ≤ p.1.size ∧ p.1.size ≤ 12002
theorem okL.put {l : List Pk} {room : Nat} {p : Pk} (h : okL l) (hp : 2 ≤ p.1.size ∧ p.1.size ≤ 12002) : okL (putL room l p) := by
  unfold putL
  split
  · exact h
  · intro q hq
    rcases List.mem_append.1 hq with hq | hq
    · exact h q hq
    · obtain rfl := List.mem_singleton.1 hq
      exact hp
theorem okL.send {l : List Pk} {room : Nat} (s : ByteArray) (h : okL l) : okL (sendL room l s) := by
  unfold sendL
  split
  · exact h
  · exact h.put (by show 2 ≤ (sealS s).size ∧ (sealS s).size ≤ 12002; rw [seal_size]; omega)
theorem okL.gone {l : List Pk} (k : Int) (h : okL l) : okL (goneL k l) := by
  unfold goneL
  split
  · exact fun p hp => h p (List.mem_of_mem_eraseIdx hp)
  · exact h
theorem goneP_mem {l : List Pk} (k : Int) (h : 0 < l.length) (h2 : l.length ≤ 1000) : goneP k l ∈ l := by
  obtain ⟨p, h1, _, _, h4⟩ := gone_some k h h2
  rw [h4]; exact List.mem_of_getElem? h1
theorem okL.twice {l : List Pk} {room : Nat} (k : Int) (h : okL l) (h2 : l.length ≤ 1000) : okL (twiceL room k l) := by
  unfold twiceL
  split
  · rename_i h0; exact h.put (h _ (goneP_mem k h0 h2))
  · exact h
theorem okL.turn {l : List Pk} (k a : Int) (y : UInt8) (h : okL l) (h2 : l.length ≤ 1000) : okL (turnL k a y l) := by
  unfold turnL
  split
  · rename_i h0
    split
    · exact h
    · split
      · exact h
      · intro p hp
        rcases List.mem_or_eq_of_mem_set hp with hp | rfl
        · exact h p hp
        · show 2 ≤ (turnT _ _ _).size ∧ (turnT _ _ _).size ≤ 12002
          rw [turn_size]; exact h _ (goneP_mem k h0 h2)
  · exact h
/-- The program's link and the document's, of the same packets. -/
structure Both (B b1 b2 : Nat) (v1 v2 : Value) (room : Nat) (l : List Pk) (w : World) : Prop where
  a : Lk 55 b1 v1 room l w
  r : Lk 38 b2 v2 room l w
  dis : ∀ k, foot b1 v1 k → ¬ foot b2 v2 k
  lo : ∀ k, foot b1 v1 k ∨ foot b2 v2 k → B ≤ k
  ok : okL l
theorem Both.step {B b1 b2 : Nat} {v1 v2 : Value} {room : Nat} {l : List Pk} {w w' : World} (h : Both B b1 b2 v1 v2 room l w) (hb : Below w.heap.size w w') : Both B b1 b2 v1 v2 room l w' :=
  ⟨h.a.step hb, h.r.step hb, h.dis, h.lo, h.ok⟩
/-- Behind the program's step: the document's is as it was. -/
theorem Both.first {B b1 b2 : Nat} {v1 v2 v1' : Value} {room : Nat} {l l' : List Pk} {w w' : World} (h : Both B b1 b2 v1 v2 room l w) (hL : Lk 55 b1 v1' room l' w') (hK : Kept (foot b1 v1) w w') (hf : ∀ k, foot b1 v1' k → foot b1 v1 k ∨ w.heap.size ≤ k) (hB : B ≤ w.heap.size) :
    Lk 38 b2 v2 room l w' ∧ Below B w w' ∧ ∀ v2' w3, Lk 38 b2 v2' room l' w3 → Kept (foot b2 v2) w' w3 → (∀ k, foot b2 v2' k → foot b2 v2 k ∨ w'.heap.size ≤ k) → okL l' → Both B b1 b2 v1' v2' room l' w3 ∧ Below B w' w3 := by
  have hr := h.r.kept hK (fun k hk hx => h.dis k hx hk)
  have hsz := hK.size
  refine ⟨hr, hK.below hB (fun k hk => h.lo k (.inl hk)), ?_⟩
  intro v2' w3 hL3 hK3 hf3 hok
  have hd : ∀ k, foot b1 v1' k → ¬ foot b2 v2 k := by
    intro k h1 h2
    rcases hf k h1 with h3 | h3
    · exact h.dis k h3 h2
    · have := h.r.foot_lt h2; omega
  refine ⟨⟨hL.kept hK3 (fun k h1 h2 => hd k h1 h2), hL3, ?_, ?_, hok⟩, hK3.below (by omega) (fun k hk => h.lo k (.inr hk))⟩
  · intro k h1 h2
    rcases hf3 k h2 with h3 | h3
    · exact hd k h1 h3
    · have := hL.foot_lt h1; omega
  · intro k hk
    rcases hk with h1 | h1
    · rcases hf k h1 with h3 | h3
      · exact h.lo k (.inl h3)
      · omega
    · rcases hf3 k h1 with h3 | h3
      · exact h.lo k (.inr h3)
      · omega
abbrev Op := Int × Int × Int × Int × ByteArray
def rOp : Rd Op := ((Rd.int .i64)).pair (((Rd.int .i64)).pair (((Rd.int .i64)).pair (((Rd.int .u8)).pair (Rd.str))))
def okOp (c : Op) : Prop := (Lit.int .i64 c.1).wf = true ∧ (Lit.int .i64 c.2.1).wf = true ∧ (Lit.int .i64 c.2.2.1).wf = true ∧ (Lit.int .u8 c.2.2.2.1).wf = true ∧ c.2.2.2.2.size ≤ maxTx
def cellsOp (c : Op) : List Value := [.int .i64 c.1, .int .i64 c.2.1, .int .i64 c.2.2.1, .int .u8 c.2.2.2.1, .string c.2.2.2.2]
def encOp (c : Op) : Value := .agg #[.int .i64 c.1, .int .i64 c.2.1, .int .i64 c.2.2.1, .int .u8 c.2.2.2.1, .string c.2.2.2.2]
theorem op_get {S : Nat → Prop} {w : World} {ao : Option Addr} {l : List Op} (h : SlAt rOp S w ao l) {k : Nat} {c : Op} (hk : l[k]? = some c) :
    ∃ b off, ao = some ⟨b, off, none⟩ ∧ S b ∧ b < w.heap.size ∧ okOp c ∧ w.cell? ⟨b, off + k * 5, none⟩ = some (.int .i64 c.1) ∧ w.cell? ⟨b, off + k * 5 + 1, none⟩ = some (.int .i64 c.2.1) ∧ w.cell? ⟨b, off + k * 5 + 2, none⟩ = some (.int .i64 c.2.2.1) ∧ w.cell? ⟨b, off + k * 5 + 3, none⟩ = some (.int .u8 c.2.2.2.1) ∧ w.cell? ⟨b, off + k * 5 + 4, none⟩ = some (.string c.2.2.2.2) := by
  obtain ⟨b, off, cs, rfl, hs, hlt, ⟨c0, d0, rfl, ⟨rfl, h0⟩, ⟨c1, d1, rfl, ⟨rfl, h1⟩, ⟨c2, d2, rfl, ⟨rfl, h2⟩, ⟨c3, d3, rfl, ⟨rfl, h3⟩, ⟨rfl, h4⟩⟩⟩⟩⟩, hc⟩ := h.get hk
  exact ⟨b, off, rfl, hs, hlt, ⟨h0, h1, h2, h3, h4⟩, hc 0 _ rfl, hc 1 _ rfl, hc 2 _ rfl, hc 3 _ rfl, hc 4 _ rfl⟩
theorem op_rel (S : Nat → Prop) (w : World) (c : Op) (h : okOp c) : rOp.rel S w (cellsOp c) c := by
  obtain ⟨h0, h1, h2, h3, h4⟩ := h
  exact ⟨[_], _, rfl, ⟨rfl, h0⟩, ⟨[_], _, rfl, ⟨rfl, h1⟩, ⟨[_], _, rfl, ⟨rfl, h2⟩, ⟨[_], _, rfl, ⟨rfl, h3⟩, ⟨rfl, h4⟩⟩⟩⟩⟩
theorem op_inv {S : Nat → Prop} {w : World} {cs : List Value} {c : Op} (h : rOp.rel S w cs c) : cs = cellsOp c ∧ okOp c := by
  obtain ⟨c0, d0, rfl, ⟨rfl, h0⟩, ⟨c1, d1, rfl, ⟨rfl, h1⟩, ⟨c2, d2, rfl, ⟨rfl, h2⟩, ⟨c3, d3, rfl, ⟨rfl, h3⟩, ⟨rfl, h4⟩⟩⟩⟩⟩ := h
  exact ⟨rfl, ⟨h0, h1, h2, h3, h4⟩⟩
theorem op_flat : Flat rOp := by
  intro S S' w w' cs c h
  obtain ⟨rfl, h2⟩ := op_inv h
  exact op_rel S' w' c h2
theorem op_one : ∀ S w cs (c : Op), rOp.rel S w cs c → ∀ u ∈ cs, u.oneCell' = true := by
  intro S w cs c h u hu
  obtain ⟨rfl, _⟩ := op_inv h
  simp [cellsOp] at hu
  rcases hu with rfl | rfl | rfl | rfl | rfl <;> rfl
theorem op_own {S : Nat → Prop} {w : World} {base : Nat} {e : TypeId} {g n cap : Nat} {l : List Op} (h : Own rOp S w base e (.slice (some ⟨g, 0, none⟩) n cap) l) {k : Nat} {c : Op} (hk : l[k]? = some c) : okOp c ∧ w.cell? ⟨g, k * 5, none⟩ = some (.int .i64 c.1) ∧ w.cell? ⟨g, k * 5 + 1, none⟩ = some (.int .i64 c.2.1) ∧ w.cell? ⟨g, k * 5 + 2, none⟩ = some (.int .i64 c.2.2.1) ∧ w.cell? ⟨g, k * 5 + 3, none⟩ = some (.int .u8 c.2.2.2.1) ∧ w.cell? ⟨g, k * 5 + 4, none⟩ = some (.string c.2.2.2.2) := by
  obtain ⟨cs, h1, hc⟩ := h.at hk
  obtain ⟨rfl, hok⟩ := op_inv h1
  exact ⟨hok, hc 0 _ rfl, hc 1 _ rfl, hc 2 _ rfl, hc 3 _ rfl, hc 4 _ rfl⟩
theorem op_each {S : Nat → Prop} {w : World} {ao : Option Addr} {l : List Op} (h : SlAt rOp S w ao l) : ∀ c ∈ l, okOp c := by
  intro c hc
  obtain ⟨k, hk⟩ := List.mem_iff_getElem?.1 hc
  obtain ⟨_, _, _, _, _, h1, _⟩ := op_get h hk
  exact h1
theorem op_ne {c d : Op} (h : c ≠ d) : (¬ c.1 = d.1) ∨ (c.1 = d.1 ∧ ¬ c.2.1 = d.2.1) ∨ (c.1 = d.1 ∧ c.2.1 = d.2.1 ∧ ¬ c.2.2.1 = d.2.2.1) ∨ (c.1 = d.1 ∧ c.2.1 = d.2.1 ∧ c.2.2.1 = d.2.2.1 ∧ ¬ c.2.2.2.1 = d.2.2.2.1) ∨ (c.1 = d.1 ∧ c.2.1 = d.2.1 ∧ c.2.2.1 = d.2.2.1 ∧ c.2.2.2.1 = d.2.2.2.1 ∧ (c.2.2.2.2.toList == d.2.2.2.2.toList) = false) := by
  have hext : c.1 = d.1 → c.2.1 = d.2.1 → c.2.2.1 = d.2.2.1 → c.2.2.2.1 = d.2.2.2.1 → c.2.2.2.2 = d.2.2.2.2 → c = d := fun x0 x1 x2 x3 x4 => Prod.ext x0 (Prod.ext x1 (Prod.ext x2 (Prod.ext x3 (x4))))
  by_cases e0 : c.1 = d.1
  · by_cases e1 : c.2.1 = d.2.1
    · by_cases e2 : c.2.2.1 = d.2.2.1
      · by_cases e3 : c.2.2.2.1 = d.2.2.2.1
        · by_cases e4 : c.2.2.2.2 = d.2.2.2.2
          · exact absurd (hext e0 e1 e2 e3 e4) h
          · exact .inr (.inr (.inr (.inr ((⟨e0, e1, e2, e3, by rw [str_eq]; simpa using e4⟩)))))
        · exact .inr (.inr (.inr (.inl (⟨e0, e1, e2, e3⟩))))
      · exact .inr (.inr (.inl (⟨e0, e1, e2⟩)))
    · exact .inr (.inl (⟨e0, e1⟩))
  · exact .inl (e0)
theorem op_info : (Try.prog.info? 34).map (fun i => (i.zero, i.size, i.bytes)) = some (some (.agg #[.int .i64 0, .int .i64 0, .int .i64 0, .int .u8 0, .string ByteArray.empty]), 5, 48) := by kernel_rfl

def LightPost (l : List Op) (w : World) (e : Ending) (w' : World) : Prop := ∃ b : Bool, e = .returned (.bool b) ∧ w = w' ∧ (b = true → l.length ≤ 200)
set_option maxHeartbeats 4000000 in
set_option maxRecDepth 100000 in
theorem light_any (ao : Option Addr) (cap : Nat) (l : List Op) (w : World) (hl : SlAt rOp (· < w.heap.size) w ao l) (hlen : l.length ≤ maxLen) :
    Calls Try.prog 6 #[.slice ao l.length cap] w (LightPost l w) := by
  unfold maxLen at hlen
  go_enter Try.func6, Try.ntmps6
  go_wp2_with fail
  go_loopw [3, 4] (fun va vi wr => ∃ k m : Nat, k ≤ l.length ∧ k ≤ 200 ∧ vi = .int .i64 k ∧ va = .int .i64 m ∧ m ≤ 40000 ∧ wr = w) (fun _ vi _ => l.length - (intOf vi).toNat)
  case atStart => exact ⟨0, 0, by omega, by omega, rfl, rfl, by omega, rfl⟩
  case round =>
    obtain ⟨k, m, hk, hk2, rfl, rfl, hm, rfl⟩ := hrel
    by_cases hkl : k < l.length
    · obtain ⟨c, hcl⟩ := some_at hkl
      obtain ⟨bb, oo, rfl, hs1, hb1, hok, y0, y1, y2, y3, y4⟩ := op_get hl hcl
      have hkl2 : (k : Int) < (l.length : Int) := by omega
      have ht : c.2.2.2.2.size ≤ 140737488351232 := hok.2.2.2.2
      obtain ⟨t, hct⟩ : ∃ t, c.2.2.2.2 = t := ⟨_, rfl⟩
      rw [hct] at y4 ht
      clear hct hok hcl y0 y1 y2 y3 hl
      by_cases hk3 : 200 ≤ k
      · have hd : decide ((200 : Int) ≤ (k : Int)) = true := by simp; omega
        go_wp2_with fail
        go_ret
        exact ⟨_, rfl, rfl, by intro h; cases h⟩
      · have hd : decide ((200 : Int) ≤ (k : Int)) = false := by simp; omega
        by_cases hg : 40000 < m + t.size
        · have hg' : (40000 : Int) < (m : Int) + (t.size : Int) := by omega
          go_wp2_with fail
          go_ret
          exact ⟨_, rfl, rfl, by intro h; cases h⟩
        · have hg' : ¬ (40000 : Int) < (m : Int) + (t.size : Int) := by omega
          go_wp2_with fail
          go_roundw
          case measure => simp [intOf]; omega
          case rel => exact ⟨k + 1, m + t.size, by omega, by omega, by go_num, by go_num, by omega, by first | rfl | trivial⟩
    · obtain rfl : k = l.length := by omega
      go_wp2_with fail
      go_ret
      exact ⟨_, rfl, rfl, fun _ => hk2⟩
end Go.Proofs.Ythloiancndlagaa
