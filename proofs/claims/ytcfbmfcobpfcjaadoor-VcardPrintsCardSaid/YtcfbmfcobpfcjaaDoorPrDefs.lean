/- Properties and their parameters: how they are read; the library's IndexFunc and ContainsFunc at parameters. -/
import Derived.Test.YtcfbmfcobpfcjaaDoorRows
import Derived.Handy
import Derived.Lib.Hide
import Derived.BigQuiet
import Derived.WalkSpells
import Derived.WalkLawsBesides
import Derived.Maps.AppendAt
import Derived.Test.YtcfbmfcobpfcjaaDoorRd2
namespace Go.Proofs.YtcfbmfcobpfcjaaDoor
open Go.RowKit Lift
set_option linter.unusedSimpArgs false
set_option linter.unusedVariables false

theorem take_same {α : Type} {l m : List α} {k : Nat} {c d : α} (h : l.take k = m.take k) (hl : l[k]? = some c) (hm : m[k]? = some d) (hcd : c = d) : l.take (k + 1) = m.take (k + 1) := by
  obtain ⟨h1, rfl⟩ := List.getElem?_eq_some_iff.1 hl
  obtain ⟨h2, rfl⟩ := List.getElem?_eq_some_iff.1 hm
  rw [List.take_succ_eq_append_getElem h1, List.take_succ_eq_append_getElem h2, h, hcd]
theorem ne_at {α : Type} {l m : List α} {k : Nat} {c d : α} (hl : l[k]? = some c) (hm : m[k]? = some d) (hcd : c ≠ d) : l ≠ m := by
  rintro rfl; rw [hl] at hm; exact hcd (Option.some.inj hm)
/-- The first place from k on at which p holds. -/
def idx {α : Type} (p : α → Bool) : Nat → List α → Int
  | _, [] => -1
  | k, c :: r => if p c then k else idx p (k + 1) r
theorem idx_ge {α : Type} (p : α → Bool) : ∀ (l : List α) (k : Nat), idx p k l = -1 ∨ ((k : Int) ≤ idx p k l ∧ idx p k l < k + l.length)
  | [], k => .inl rfl
  | c :: r, k => by
    rw [idx]
    split
    · right; simp; omega
    · rcases idx_ge p r (k + 1) with h | h
      · exact .inl h
      · right; simp; omega
theorem idx_any {α : Type} (p : α → Bool) : ∀ (l : List α) (k : Nat), decide (0 ≤ idx p k l) = l.any p
  | [], k => by simp [idx]
  | c :: r, k => by
    rw [idx, List.any_cons]
    cases p c
    · simpa using idx_any p r (k + 1)
    · simp
/-- The element at that place, and that it is the first. -/
theorem idx_at {α : Type} (p : α → Bool) : ∀ (l : List α) (k : Nat) (j : Nat), idx p k l = (k : Int) + j → ∃ c, l[j]? = some c ∧ p c = true ∧ ∀ d ∈ l.take j, p d = false
  | [], k, j, h => by simp [idx] at h; omega
  | c :: r, k, j, h => by
    rw [idx] at h
    split at h
    · rename_i hc
      obtain rfl : j = 0 := by omega
      exact ⟨c, rfl, hc, by simp⟩
    · rename_i hc
      match j, h with
      | 0, h => rcases idx_ge p r (k + 1) with h2 | h2 <;> omega
      | j + 1, h =>
        obtain ⟨d, h1, h2, h3⟩ := idx_at p r (k + 1) j (by rw [h]; push_cast; omega)
        refine ⟨d, by simpa using h1, h2, fun x hx => ?_⟩
        rw [List.take_succ_cons, List.mem_cons] at hx
        rcases hx with rfl | hx
        · simpa using hc
        · exact h3 x hx
theorem idx_none {α : Type} (p : α → Bool) : ∀ (l : List α) (k : Nat), idx p k l = -1 → ∀ c ∈ l, p c = false
  | [], k, _ => by simp
  | c :: r, k, h => by
    rw [idx] at h
    split at h
    · omega
    · rename_i hc
      intro x hx
      rcases List.mem_cons.1 hx with rfl | hx
      · simpa using hc
      · exact idx_none p r (k + 1) h x hx
/-- What a predicate that is handed on does, wherever what lies below B is as it was: a bool, all that was there as it was. -/
structure PredOf {α : Type} (ok : α → Prop) (enc : α → Value) (g : FuncId) (bs : List Value) (p : α → Bool) (B : Nat) (W : World) : Prop where
  enters : ∀ (args : Array Value) (w : World), (callFunc g args).run Tryd.prog w = .ok (.enter g args) w
  calls : ∀ (w : World) (c : α), ok c → Below B W w → Calls Tryd.prog g (enc c :: bs).toArray w (BelowPost (.bool (p c)) w)
theorem PredOf.later {α : Type} {ok : α → Prop} {enc : α → Value} {g : FuncId} {bs : List Value} {p : α → Bool} {B : Nat} {W w : World} (h : PredOf ok enc g bs p B W) (hw : Below B W w) (hB : B ≤ w.heap.size) : PredOf ok enc g bs p w.heap.size w :=
  ⟨h.enters, fun w' c hc hb => h.calls w' c hc (hw.trans (hb.mono hB))⟩
theorem filter_none {α : Type} {p : α → Bool} {l : List α} (h : ∀ c ∈ l, p c = false) : (l.filter fun c => !p c) = l := by
  rw [List.filter_eq_self]; intro c hc; rw [h c hc]; rfl
theorem filter_first {α : Type} {p : α → Bool} {l : List α} {i : Nat} {c : α} (hi : l[i]? = some c) (hc : p c = true) (h : ∀ d ∈ l.take i, p d = false) : l.take i = (l.take (i + 1)).filter fun c => !p c := by
  rw [take_at2 hi, List.filter_append, filter_none h]; simp [hc]
theorem set_take {α : Type} {m : List α} {i : Nat} {c : α} (hi : i < m.length) : (m.set i c).take (i + 1) = m.take i ++ [c] := by
  rw [take_at2 (List.getElem?_set_self hi), List.take_set_of_le (Nat.le_refl _)]
theorem drop_get {α : Type} {l m : List α} {j : Nat} (h : m.drop j = l.drop j) : m[j]? = l[j]? := by
  have := congrArg (fun x => x[0]?) h
  simpa using this
/-- What DeleteFunc hands back: the row's beginning; nothing else has turned, but for new blocks. -/
def DelPost {α : Type} (r : Rd α) (e : TypeId) (base g cap : Nat) (l : List α) (w : World) (x : Ending) (w' : World) : Prop := x = .returned (.slice (some ⟨g, 0, none⟩) l.length cap) ∧ Own r (fun _ => True) w' base e (.slice (some ⟨g, 0, none⟩) l.length cap) l ∧ Kept (fun j => j = g) w w'

abbrev Par := ByteArray × ByteArray
def rPar : Rd Par := (Rd.str).pair (Rd.str)
def okPar (c : Par) : Prop := c.1.size ≤ maxTx ∧ c.2.size ≤ maxTx
def cellsPar (c : Par) : List Value := [.string c.1, .string c.2]
def encPar (c : Par) : Value := .agg #[.string c.1, .string c.2]
theorem par_get {S : Nat → Prop} {w : World} {ao : Option Addr} {l : List Par} (h : SlAt rPar S w ao l) {k : Nat} {c : Par} (hk : l[k]? = some c) :
    ∃ b off, ao = some ⟨b, off, none⟩ ∧ S b ∧ b < w.heap.size ∧ okPar c ∧ w.cell? ⟨b, off + k * 2, none⟩ = some (.string c.1) ∧ w.cell? ⟨b, off + k * 2 + 1, none⟩ = some (.string c.2) := by
  obtain ⟨b, off, cs, rfl, hs, hlt, ⟨c0, d0, rfl, ⟨rfl, h0⟩, ⟨rfl, h1⟩⟩, hc⟩ := h.get hk
  exact ⟨b, off, rfl, hs, hlt, ⟨h0, h1⟩, hc 0 _ rfl, hc 1 _ rfl⟩
theorem par_rel (S : Nat → Prop) (w : World) (c : Par) (h : okPar c) : rPar.rel S w (cellsPar c) c := by
  obtain ⟨h0, h1⟩ := h
  exact ⟨[_], _, rfl, ⟨rfl, h0⟩, ⟨rfl, h1⟩⟩
theorem par_inv {S : Nat → Prop} {w : World} {cs : List Value} {c : Par} (h : rPar.rel S w cs c) : cs = cellsPar c ∧ okPar c := by
  obtain ⟨c0, d0, rfl, ⟨rfl, h0⟩, ⟨rfl, h1⟩⟩ := h
  exact ⟨rfl, ⟨h0, h1⟩⟩
theorem par_flat : Flat rPar := by
  intro S S' w w' cs c h
  obtain ⟨rfl, h2⟩ := par_inv h
  exact par_rel S' w' c h2
theorem par_one : ∀ S w cs (c : Par), rPar.rel S w cs c → ∀ u ∈ cs, u.oneCell' = true := by
  intro S w cs c h u hu
  obtain ⟨rfl, _⟩ := par_inv h
  simp [cellsPar] at hu
  rcases hu with rfl | rfl <;> rfl
theorem par_own {S : Nat → Prop} {w : World} {base : Nat} {e : TypeId} {g n cap : Nat} {l : List Par} (h : Own rPar S w base e (.slice (some ⟨g, 0, none⟩) n cap) l) {k : Nat} {c : Par} (hk : l[k]? = some c) : okPar c ∧ w.cell? ⟨g, k * 2, none⟩ = some (.string c.1) ∧ w.cell? ⟨g, k * 2 + 1, none⟩ = some (.string c.2) := by
  obtain ⟨cs, h1, hc⟩ := h.at hk
  obtain ⟨rfl, hok⟩ := par_inv h1
  exact ⟨hok, hc 0 _ rfl, hc 1 _ rfl⟩
theorem par_each {S : Nat → Prop} {w : World} {ao : Option Addr} {l : List Par} (h : SlAt rPar S w ao l) : ∀ c ∈ l, okPar c := by
  intro c hc
  obtain ⟨k, hk⟩ := List.mem_iff_getElem?.1 hc
  obtain ⟨_, _, _, _, _, h1, _⟩ := par_get h hk
  exact h1
theorem par_ne {c d : Par} (h : c ≠ d) : ((c.1.toList == d.1.toList) = false) ∨ ((c.1.toList == d.1.toList) = true ∧ (c.2.toList == d.2.toList) = false) := by
  have hext : c.1 = d.1 → c.2 = d.2 → c = d := fun x0 x1 => Prod.ext x0 (x1)
  by_cases e0 : c.1 = d.1
  · by_cases e1 : c.2 = d.2
    · exact absurd (hext e0 e1) h
    · exact .inr ((⟨(by rw [str_eq]; simpa using e0), by rw [str_eq]; simpa using e1⟩))
  · exact .inl (by rw [str_eq]; simpa using e0)
theorem par_info : (Tryd.prog.info? 58).map (fun i => (i.zero, i.size, i.bytes)) = some (some (.agg #[.string ByteArray.empty, .string ByteArray.empty]), 2, 32) := by kernel_rfl


set_option maxHeartbeats 1000000 in
set_option maxRecDepth 100000 in
theorem index_par1 (ao : Option Addr) (cap : Nat) (l : List Par) (g : FuncId) (b0 : Value) (p : Par → Bool) (w : World) (hl : SlAt rPar (· < w.heap.size) w ao l) (hlen : l.length ≤ 100000) (hp : PredOf okPar encPar g [b0] p w.heap.size w) :
    Calls Tryd.prog 58 #[.slice ao l.length cap, .func (.func g) #[] #[b0]] w (BelowPost (.int .i64 (idx p 0 l)) w) := by
  have HP := Lib.hid hp.calls
  have hen := hp.enters
  clear hp
  go_enter Tryd.func58, Tryd.ntmps58
  go_wp2_with fail
  go_loopw [8] (fun v8 wr => ∃ k : Nat, k ≤ l.length ∧ v8 = .int .i64 k ∧ Hid (idx p 0 l = idx p k (l.drop k)) ∧ Below w.heap.size w wr) (fun v8 _ => l.length - (intOf v8).toNat)
  case atStart => exact ⟨0, by omega, rfl, Lib.hid rfl, Below.refl _ _⟩
  case round =>
    obtain ⟨k, hk, rfl, hix, hb⟩ := hrel
    by_cases hkl : k < l.length
    · obtain ⟨c, hcl⟩ := some_at hkl
      obtain ⟨bb, oo, rfl, hs1, hb1, hok, x0, x1⟩ := par_get (hl.old hb) hcl
      have hkl2 : (k : Int) < (l.length : Int) := by omega
      have hlim : k ≤ 100000 := by omega
      have hi2 := hix.out
      rw [drop_at2 hcl, idx] at hi2
      have hpc := HP.out wr c hok hb
      cases hpq : p c with
      | true =>
        rw [hpq] at hi2 hpc
        have HI := Lib.hid hi2
        have HC := Lib.hid hpc
        clear hi2 hpc hpq
        go_wp2_with fail
        refine HC.out.mono ?_
        rintro e w3 ⟨rfl, hb3⟩
        go_wp2_with fail
        go_ret
        exact ⟨by rw [HI.out]; rfl, chain hb hb3⟩
      | false =>
        rw [hpq] at hi2 hpc
        have HI := Lib.hid (show idx p 0 l = idx p (k + 1) (l.drop (k + 1)) from hi2)
        have HC := Lib.hid hpc
        clear hi2 hpc hpq
        go_wp2_with fail
        refine HC.out.mono ?_
        rintro e w3 ⟨rfl, hb3⟩
        go_wp2_with fail
        go_roundw
        case measure => simp [intOf]; omega
        case rel => exact ⟨k + 1, by omega, by go_num, HI, chain hb hb3⟩
    · obtain rfl : k = l.length := by omega
      have hi2 := hix.out
      rw [List.drop_length, idx] at hi2
      have HI := Lib.hid hi2
      clear hi2
      go_wp2_with fail
      go_ret
      exact ⟨by rw [HI.out]; rfl, hb⟩


set_option maxHeartbeats 1000000 in
set_option maxRecDepth 100000 in
theorem index_par0 (ao : Option Addr) (cap : Nat) (l : List Par) (g : FuncId) (p : Par → Bool) (w : World) (hl : SlAt rPar (· < w.heap.size) w ao l) (hlen : l.length ≤ 100000) (hp : PredOf okPar encPar g [] p w.heap.size w) :
    Calls Tryd.prog 58 #[.slice ao l.length cap, .func (.func g) #[] #[]] w (BelowPost (.int .i64 (idx p 0 l)) w) := by
  have HP := Lib.hid hp.calls
  have hen := hp.enters
  clear hp
  go_enter Tryd.func58, Tryd.ntmps58
  go_wp2_with fail
  go_loopw [8] (fun v8 wr => ∃ k : Nat, k ≤ l.length ∧ v8 = .int .i64 k ∧ Hid (idx p 0 l = idx p k (l.drop k)) ∧ Below w.heap.size w wr) (fun v8 _ => l.length - (intOf v8).toNat)
  case atStart => exact ⟨0, by omega, rfl, Lib.hid rfl, Below.refl _ _⟩
  case round =>
    obtain ⟨k, hk, rfl, hix, hb⟩ := hrel
    by_cases hkl : k < l.length
    · obtain ⟨c, hcl⟩ := some_at hkl
      obtain ⟨bb, oo, rfl, hs1, hb1, hok, x0, x1⟩ := par_get (hl.old hb) hcl
      have hkl2 : (k : Int) < (l.length : Int) := by omega
      have hlim : k ≤ 100000 := by omega
      have hi2 := hix.out
      rw [drop_at2 hcl, idx] at hi2
      have hpc := HP.out wr c hok hb
      cases hpq : p c with
      | true =>
        rw [hpq] at hi2 hpc
        have HI := Lib.hid hi2
        have HC := Lib.hid hpc
        clear hi2 hpc hpq
        go_wp2_with fail
        refine HC.out.mono ?_
        rintro e w3 ⟨rfl, hb3⟩
        go_wp2_with fail
        go_ret
        exact ⟨by rw [HI.out]; rfl, chain hb hb3⟩
      | false =>
        rw [hpq] at hi2 hpc
        have HI := Lib.hid (show idx p 0 l = idx p (k + 1) (l.drop (k + 1)) from hi2)
        have HC := Lib.hid hpc
        clear hi2 hpc hpq
        go_wp2_with fail
        refine HC.out.mono ?_
        rintro e w3 ⟨rfl, hb3⟩
        go_wp2_with fail
        go_roundw
        case measure => simp [intOf]; omega
        case rel => exact ⟨k + 1, by omega, by go_num, HI, chain hb hb3⟩
    · obtain rfl : k = l.length := by omega
      have hi2 := hix.out
      rw [List.drop_length, idx] at hi2
      have HI := Lib.hid hi2
      clear hi2
      go_wp2_with fail
      go_ret
      exact ⟨by rw [HI.out]; rfl, hb⟩

end Go.Proofs.YtcfbmfcobpfcjaaDoor
