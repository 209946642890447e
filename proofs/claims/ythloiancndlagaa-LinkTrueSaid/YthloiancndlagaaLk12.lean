/- Two links and what was sent. -/
import Derived.Test.YthloiancndlagaaLk11
namespace Go.Proofs.Ythloiancndlagaa
open Go.RowKit Lift Crc
set_option linter.unusedSimpArgs false
set_option linter.unusedVariables false

theorem str_flat : Flat Rd.str := fun _ _ _ _ _ _ h => h
theorem str_get {S : Nat → Prop} {w : World} {ao : Option Addr} {l : List ByteArray} (h : SlAt Rd.str S w ao l) {k : Nat} {c : ByteArray} (hk : l[k]? = some c) : ∃ b off, ao = some ⟨b, off, none⟩ ∧ S b ∧ b < w.heap.size ∧ w.cell? ⟨b, off + k, none⟩ = some (.string c) := by
  obtain ⟨b, off, cs, rfl, hs, hlt, ⟨rfl, hw⟩, hc⟩ := h.get hk
  refine ⟨b, off, rfl, hs, hlt, ?_⟩
  have := hc 0 _ rfl
  simpa [Rd.str] using this
structure Mid (B b1 b2 : Nat) (v1 v2 : Value) (room : Nat) (l' l : List Pk) (sv : Value) (sl : List ByteArray) (w : World) : Prop where
  a : Lk 55 b1 v1 room l' w
  r : Lk 38 b2 v2 room l w
  dis : ∀ k, foot b1 v1 k → ¬ foot b2 v2 k
  lo1 : ∀ k, foot b1 v1 k → B ≤ k
  lo2 : ∀ k, foot b2 v2 k → B ≤ k
  own : Own Rd.str (fun _ => True) w B 9 sv sl
  ap1 : ∀ k, foot b1 v1 k → some k ≠ sv.ownBlock
  ap2 : ∀ k, foot b2 v2 k → some k ≠ sv.ownBlock
section
variable {B b1 b2 : Nat} {v1 v2 v1' v2' sv sv' : Value} {room : Nat} {l l' : List Pk} {sl sl' : List ByteArray} {w w' : World}
theorem Mid.step (h : Mid B b1 b2 v1 v2 room l' l sv sl w) (hb : Below w.heap.size w w') : Mid B b1 b2 v1 v2 room l' l sv sl w' :=
  ⟨h.a.step hb, h.r.step hb, h.dis, h.lo1, h.lo2, h.own.below hb, h.ap1, h.ap2⟩
theorem Mid.first (h : Mid B b1 b2 v1 v2 room l l sv sl w) (hL : Lk 55 b1 v1' room l' w') (hK : Kept (foot b1 v1) w w') (hf : ∀ k, foot b1 v1' k → foot b1 v1 k ∨ w.heap.size ≤ k) (hB : B ≤ w.heap.size) :
    Mid B b1 b2 v1' v2 room l' l sv sl w' ∧ Below B w w' := by
  refine ⟨⟨hL, h.r.kept hK (fun k hk hx => h.dis k hx hk), ?_, ?_, h.lo2, h.own.flat str_flat hK (fun k hk hx => h.ap1 k hx hk.symm), ?_, h.ap2⟩, hK.below hB h.lo1⟩
  · intro k h1 h2
    rcases hf k h1 with h3 | h3
    · exact h.dis k h3 h2
    · have := h.r.foot_lt h2; omega
  · intro k h1
    rcases hf k h1 with h3 | h3
    · exact h.lo1 k h3
    · omega
  · intro k h1 h2
    rcases hf k h1 with h3 | h3
    · exact h.ap1 k h3 h2
    · have := (h.own.lt k h2.symm).2; omega
theorem Mid.second (h : Mid B b1 b2 v1 v2 room l' l sv sl w) (hL : Lk 38 b2 v2' room l' w') (hK : Kept (foot b2 v2) w w') (hf : ∀ k, foot b2 v2' k → foot b2 v2 k ∨ w.heap.size ≤ k) (hB : B ≤ w.heap.size) :
    Mid B b1 b2 v1 v2' room l' l' sv sl w' ∧ Below B w w' := by
  refine ⟨⟨h.a.kept hK h.dis, hL, ?_, h.lo1, ?_, h.own.flat str_flat hK (fun k hk hx => h.ap2 k hx hk.symm), h.ap1, ?_⟩, hK.below hB h.lo2⟩
  · intro k h1 h2
    rcases hf k h2 with h3 | h3
    · exact h.dis k h1 h3
    · have := h.a.foot_lt h1; omega
  · intro k h1
    rcases hf k h1 with h3 | h3
    · exact h.lo2 k h3
    · omega
  · intro k h1 h2
    rcases hf k h1 with h3 | h3
    · exact h.ap2 k h3 h2
    · have := (h.own.lt k h2.symm).2; omega
theorem Mid.push (h : Mid B b1 b2 v1 v2 room l' l sv sl w) (hK : Kept (fun k => some k = sv.ownBlock) w w') (hO : Own Rd.str (fun _ => True) w' B 9 sv' sl') (hw : sv'.ownBlock = sv.ownBlock ∨ ∃ g, sv'.ownBlock = some g ∧ w.heap.size ≤ g) (hB : B ≤ w.heap.size) :
    Mid B b1 b2 v1 v2 room l' l sv' sl' w' ∧ Below B w w' := by
  refine ⟨⟨h.a.kept hK h.ap1, h.r.kept hK h.ap2, h.dis, h.lo1, h.lo2, hO, ?_, ?_⟩, hK.below hB (fun k hk => (h.own.lt k hk.symm).1)⟩
  · intro k h1 h2
    rcases hw with e | ⟨g, e, hg⟩
    · exact h.ap1 k h1 (h2.trans e)
    · rw [e] at h2; cases h2
      have := h.a.foot_lt h1; omega
  · intro k h1 h2
    rcases hw with e | ⟨g, e, hg⟩
    · exact h.ap2 k h1 (h2.trans e)
    · rw [e] at h2; cases h2
      have := h.r.foot_lt h1; omega
end
/-- What is on its way was sent so, or is seen as spoilt. -/
def Inv (l : List Pk) (sl : List ByteArray) : Prop := ∀ p ∈ l, (p.2 = false → ∃ s ∈ sl, p.1 = sealS s) ∧ (p.2 = true → openB p.1 = false)
theorem Inv.nil : Inv [] [] := fun p hp => by simp at hp
theorem Inv.more {l : List Pk} {sl : List ByteArray} (h : Inv l sl) (s : ByteArray) : Inv l (sl ++ [s]) := fun p hp => ⟨fun e => by obtain ⟨t, ht, e2⟩ := (h p hp).1 e; exact ⟨t, by simp [ht], e2⟩, (h p hp).2⟩
theorem Inv.put {l : List Pk} {sl : List ByteArray} {room : Nat} {p : Pk} (h : Inv l sl) (hp : (p.2 = false → ∃ s ∈ sl, p.1 = sealS s) ∧ (p.2 = true → openB p.1 = false)) : Inv (putL room l p) sl := by
  unfold putL
  split
  · exact h
  · intro q hq
    rcases List.mem_append.1 hq with hq | hq
    · exact h q hq
    · obtain rfl := List.mem_singleton.1 hq
      exact hp
theorem Inv.send {l : List Pk} {sl : List ByteArray} {room : Nat} (h : Inv l sl) (s : ByteArray) : Inv (sendL room l s) (if sendE room l s = 0 then sl ++ [s] else sl) := by
  unfold sendL sendE
  split
  · rw [if_neg (by decide)]; exact h
  · by_cases hr : room ≤ l.length
    · rw [show putE room l = 4 from if_pos hr, show putL room l (sealS s, false) = l from if_pos hr, if_neg (by decide)]; exact h
    · rw [show putE room l = 0 from if_neg hr, if_pos rfl]
      exact (h.more s).put ⟨fun _ => ⟨s, by simp, rfl⟩, fun e => (by cases e)⟩
theorem Inv.gone {l : List Pk} {sl : List ByteArray} (k : Int) (h : Inv l sl) : Inv (goneL k l) sl := by
  unfold goneL
  split
  · exact fun p hp => h p (List.mem_of_mem_eraseIdx hp)
  · exact h
theorem Inv.twice {l : List Pk} {sl : List ByteArray} {room : Nat} (k : Int) (h : Inv l sl) (h2 : l.length ≤ 1000) : Inv (twiceL room k l) sl := by
  unfold twiceL
  split
  · rename_i h0; exact h.put (h _ (goneP_mem k h0 h2))
  · exact h
theorem Inv.turn {l : List Pk} {sl : List ByteArray} (k a : Int) (y : UInt8) (h : Inv l sl) (hok : okL l) (h2 : l.length ≤ 1000) : Inv (turnL k a y l) sl := by
  unfold turnL
  split
  · rename_i h0
    split
    · exact h
    · rename_i hp
      split
      · exact h
      · rename_i hy
        intro p hp2
        rcases List.mem_or_eq_of_mem_set hp2 with hp2 | rfl
        · exact h p hp2
        · refine ⟨fun e => (by cases e), fun _ => ?_⟩
          obtain ⟨s, _, e⟩ := (h _ (goneP_mem k h0 h2)).1 (by simpa using hp)
          have hsz := (hok _ (goneP_mem k h0 h2)).2
          show openB (turnT (goneP k l).1 a y) = false
          rw [e] at hsz ⊢
          unfold turnT
          exact one_seen (sealS s) (open_seal s).1 _ (atN_big a _ (by rw [seal_size]; omega) (by omega)).1 y hy
  · exact h
def inS (l : List ByteArray) (s : ByteArray) : Bool := l.any (fun t => t.toList == s.toList)
set_option maxHeartbeats 4000000 in
theorem inS_any (ao : Option Addr) (cap : Nat) (l : List ByteArray) (s : ByteArray) (w : World) (hl : SlAt Rd.str (· < w.heap.size) w ao l) (hlen : l.length ≤ 100000) :
    Calls Try.prog 14 #[.slice ao l.length cap, .string s] w (fun e w' => e = .returned (.bool (inS l s)) ∧ w = w') := by
  obtain ⟨E, hE⟩ : ∃ E, inS l s = E := ⟨_, rfl⟩
  rw [hE]
  have HE := Lib.hid hE
  clear hE
  go_enter Try.func14, Try.ntmps14
  go_wp2_with fail
  go_loopw [5] (fun v5 wr => ∃ k : Nat, k ≤ l.length ∧ v5 = .int .i64 k ∧ Hid (inS l s = inS (l.drop k) s) ∧ w = wr) (fun v5 _ => l.length - (intOf v5).toNat)
  case atStart => exact ⟨0, by omega, rfl, Lib.hid rfl, rfl⟩
  case round =>
    obtain ⟨k, hk, rfl, HD, rfl⟩ := hrel
    by_cases hkl : k < l.length
    · obtain ⟨c, hcl⟩ := some_at hkl
      obtain ⟨bb, oo, rfl, hs1, hb1, y0⟩ := str_get hl hcl
      have hkl2 : (k : Int) < (l.length : Int) := by omega
      have HC := Lib.hid (show inS (l.drop k) s = ((c.toList == s.toList) || inS (l.drop (k + 1)) s) by
        obtain ⟨hk1, rfl⟩ := List.getElem?_eq_some_iff.1 hcl
        unfold inS; rw [List.drop_eq_getElem_cons hk1, List.any_cons])
      clear hcl hl
      obtain ⟨f, hf⟩ : ∃ f, (c.toList == s.toList) = f := ⟨_, rfl⟩
      rw [hf] at HC
      cases f with
      | true =>
        go_wp2_with fail
        go_ret
        exact ⟨ret_bool (by rw [← HE.out, HD.out, HC.out]; rfl), rfl⟩
      | false =>
        go_wp2_with fail
        go_roundw
        case measure => simp [intOf]; omega
        case rel => exact ⟨k + 1, by omega, by go_num, Lib.hid (HD.out.trans HC.out), by first | rfl | trivial⟩
    · obtain rfl : k = l.length := by omega
      go_wp2_with fail
      go_ret
      exact ⟨ret_bool (by rw [← HE.out, HD.out, List.drop_length]; rfl), rfl⟩
theorem in_mem {l : List ByteArray} {s : ByteArray} (h : s ∈ l) : inS l s = true := by
  unfold inS
  rw [List.any_eq_true]
  exact ⟨s, h, by simp⟩
end Go.Proofs.Ythloiancndlagaa
