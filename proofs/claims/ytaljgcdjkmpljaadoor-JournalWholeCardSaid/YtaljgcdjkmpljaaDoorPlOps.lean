/- Calls that came in: how they are read; light. -/
import Derived.Test.YtaljgcdjkmpljaaDoorPl8
namespace Go.Proofs.YtaljgcdjkmpljaaDoor
open Go.RowKit Lift
set_option linter.unusedSimpArgs false
set_option linter.unusedVariables false

structure OpD where
  kind : Int
  at_ : Int
  s : ByteArray
  keep : List Int
abbrev Op4 := Int × Int × ByteArray × List Int
def rOp : Rd Op4 := (Rd.int .i64).pair ((Rd.int .i64).pair (Rd.str.pair (Rd.int .i64).slice))
theorem op_get {S : Nat → Prop} {w : World} {ao : Option Addr} {l : List Op4} (h : SlAt rOp S w ao l) {k : Nat} {c : Op4} (hk : l[k]? = some c) :
    ∃ b off ko kcap, ao = some ⟨b, off, none⟩ ∧ S b ∧ b < w.heap.size ∧ Wf c.1 ∧ Wf c.2.1 ∧ c.2.2.1.size ≤ maxTx ∧ c.2.2.2.length ≤ kcap ∧ kcap ≤ maxLen ∧ SlAt (Rd.int .i64) S w ko c.2.2.2 ∧
      w.cell? ⟨b, off + k * 4, none⟩ = some (.int .i64 c.1) ∧ w.cell? ⟨b, off + k * 4 + 1, none⟩ = some (.int .i64 c.2.1) ∧ w.cell? ⟨b, off + k * 4 + 2, none⟩ = some (.string c.2.2.1) ∧ w.cell? ⟨b, off + k * 4 + 3, none⟩ = some (.slice ko c.2.2.2.length kcap) := by
  obtain ⟨b, off, cs, rfl, hs, hlt, ⟨c1, d1, rfl, ⟨rfl, h1⟩, c2, d2, rfl, ⟨rfl, h2⟩, c3, d3, rfl, ⟨rfl, h3⟩, ⟨ko, kcap, rfl, h4, h5, h6, h7⟩⟩, hc⟩ := h.get hk
  exact ⟨b, off, ko, kcap, rfl, hs, hlt, h1, h2, h3, h4, h5, h7, hc 0 _ rfl, hc 1 _ rfl, hc 2 _ rfl, hc 3 _ rfl⟩
def lightP (l : List Op4) : Prop := l.length ≤ 80 ∧ ∀ c ∈ l, c.2.2.1.size ≤ 300 ∧ c.2.2.2.length ≤ 200
instance (l : List Op4) : Decidable (lightP l) := by unfold lightP; infer_instance
theorem lightP_take {l : List Op4} {k : Nat} {c : Op4} (h : ∀ c ∈ l.take k, c.2.2.1.size ≤ 300 ∧ c.2.2.2.length ≤ 200) (hk : l[k]? = some c) (h2 : c.2.2.1.size ≤ 300 ∧ c.2.2.2.length ≤ 200) : ∀ c ∈ l.take (k + 1), c.2.2.1.size ≤ 300 ∧ c.2.2.2.length ≤ 200 := by
  rw [take_at2 hk]
  intro d hd
  rcases List.mem_append.1 hd with hd | hd
  · exact h d hd
  · simp at hd; subst hd; exact h2
/-! ### Two plates -/
theorem VoidRaw.pl {base : Nat} {F F' : Fp} {st : St} {w : World} {e : Ending} {w' : World} (h : VoidRaw base F F' st w e w') (hb : F'.b = F.b) (hf : ∀ k, foot F' k → foot F k) : PlPost base F st (.tuple #[]) w e w' :=
  ⟨F', h.1, h.2.1, hb, fun k hk => .inl (hf k hk), h.2.2⟩
theorem foot_nil {F : Fp} : ∀ k, foot { F with lv := .slice none 0 0 } k → foot F k := by
  rintro k (rfl | rfl | rfl | hk)
  · exact .inl rfl
  · exact .inr (.inl rfl)
  · exact .inr (.inr (.inl rfl))
  · cases hk
def Two (base : Nat) (w : World) (b1 : Nat) (st1 : St) (b2 : Nat) (st2 : St) : Prop := ∃ F1 F2 : Fp, F1.b = b1 ∧ F2.b = b2 ∧ Raw base w F1 st1 ∧ Raw base w F2 st2 ∧ ∀ k, foot F1 k → ¬ foot F2 k
theorem Two.symm {base : Nat} {w : World} {b1 b2 : Nat} {st1 st2 : St} (h : Two base w b1 st1 b2 st2) : Two base w b2 st2 b1 st1 := by
  obtain ⟨F1, F2, e1, e2, h1, h2, h3⟩ := h
  exact ⟨F2, F1, e2, e1, h2, h1, fun k a b => h3 k b a⟩
theorem Two.one {base : Nat} {w : World} {b1 b2 : Nat} {st1 st2 : St} (h : Two base w b1 st1 b2 st2) : Pl base w b1 st1 := by
  obtain ⟨F1, F2, e1, e2, h1, h2, h3⟩ := h; exact ⟨F1, e1, h1⟩
theorem Two.below {base : Nat} {w w' : World} {b1 b2 : Nat} {st1 st2 : St} (h : Two base w b1 st1 b2 st2) (hb : Below w.heap.size w w') : Two base w' b1 st1 b2 st2 := by
  obtain ⟨F1, F2, e1, e2, h1, h2, h3⟩ := h
  exact ⟨F1, F2, e1, e2, h1.below hb, h2.below hb, h3⟩
def TwoV (base b1 : Nat) (st1 : St) (b2 : Nat) (st2 : St) (v : Value) (w : World) (e : Ending) (w' : World) : Prop := e = .returned v ∧ Two base w' b1 st1 b2 st2 ∧ Below base w w'
theorem Two.step {base : Nat} {w : World} {b1 b2 : Nat} {st1 st1' st2 : St} {f : FuncId} {args : Array Value} {v : Value} (h : Two base w b1 st1 b2 st2) (hc : ∀ F, Raw base w F st1 → F.b = b1 → Calls Tryd.prog f args w (PlPost base F st1' v w)) :
    Calls Tryd.prog f args w (TwoV base b1 st1' b2 st2 v w) := by
  obtain ⟨F1, F2, e1, e2, h1, h2, h3⟩ := h
  refine (hc F1 h1 e1).mono ?_
  rintro e w' ⟨F', he, hR, hb, hf, hk⟩
  refine ⟨he, ⟨F', F2, hb.trans e1, e2, hR, h2.kept hk (fun k a b => h3 k b a), fun k a b => ?_⟩, hk.below h1.base_le h1.ge⟩
  rcases hf k a with h | h
  · exact h3 k h b
  · have := h2.inb k b; omega
theorem two_put {base b1 b2 : Nat} {w : World} {st1 st2 : St} (h : Two base w b1 st1 b2 st2) (x : Int) (s : ByteArray) (hs : s.size ≤ maxTx) (hll : st1.lo.length ≤ 1000000000) :
    Calls Tryd.prog 28 #[.pointer (some ⟨b1, 0, none⟩), .int .i64 x, .string s] w (TwoV base b1 (putS st1 x s) b2 st2 (.int .i64 (putE st1 x s)) w) :=
  h.step fun F hF e => by subst e; exact put_any hF x s hs hll
theorem two_sync {base b1 b2 : Nat} {w : World} {st1 st2 : St} (h : Two base w b1 st1 b2 st2) (hll : st1.lo.length ≤ 1000000000) :
    Calls Tryd.prog 38 #[.pointer (some ⟨b1, 0, none⟩)] w (TwoV base b1 (syncS st1) b2 st2 (.int .i64 (syncE st1)) w) :=
  h.step fun F hF e => by subst e; exact sync_any hF hll
theorem two_fuse {base b1 b2 : Nat} {w : World} {st1 st2 : St} (h : Two base w b1 st1 b2 st2) (n : Int) (hn : Wf n) :
    Calls Tryd.prog 14 #[.pointer (some ⟨b1, 0, none⟩), .int .i64 n] w (TwoV base b1 { st1 with fu := max n (-1) } b2 st2 (.tuple #[]) w) :=
  h.step fun F hF e => by
    subst e
    have := int_i64 hn
    exact (fuse_any hF n this.1 this.2).mono fun e w' h => h.pl rfl (fun k h => h)
theorem two_crash {base b1 b2 : Nat} {w : World} {st1 st2 : St} (h : Two base w b1 st1 b2 st2) (hll : st1.lo.length ≤ 1000000000) (ko : Option Addr) (kcap : Nat) (keep : List Int) (hkl : keep.length ≤ 9223372036854775807) (S : Nat → Prop) (hk : SlAt (Rd.int .i64) S w ko keep)
    (hS : ∀ F, Raw base w F st1 → F.b = b1 → ∀ k, S k → ¬ foot F k) :
    Calls Tryd.prog 19 #[.pointer (some ⟨b1, 0, none⟩), .slice ko keep.length kcap] w (TwoV base b1 (crashS st1 keep) b2 st2 (.tuple #[]) w) :=
  h.step fun F hF e => by
    have hk2 : SlAt (Rd.int .i64) (fun b => ¬ foot F b) w ko keep := hk.mono (fun k hk _ => hS F hF e k hk)
    subst e
    exact (crash_any hF hll ko kcap keep hkl hk2).mono fun e w' h => h.pl rfl foot_nil
end Go.Proofs.YtaljgcdjkmpljaaDoor
