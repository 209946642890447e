/- A plate and a list of texts of a law's own: the plate's calls. -/
import Derived.Test.YtaljgcdjkmpljaaDoorJnF
namespace Go.Proofs.YtaljgcdjkmpljaaDoor
open Go.RowKit Lift
set_option linter.unusedSimpArgs false
set_option linter.unusedVariables false

structure Duo (base : Nat) (w : World) (F : Fp) (st : St) (v : Value) (l : List ByteArray) : Prop where
  raw : Raw base w F st
  own : Lift.Own Rd.str (fun _ => True) w base 9 v l
  ap : ∀ k, v.ownBlock = some k → ¬ foot F k
section
variable {base : Nat} {w w' : World} {F : Fp} {st st' : St} {J : JF} {js js2 : JSt} {v : Value} {l : List ByteArray} {e : Ending}
theorem Trio.duo (h : Trio base w F st J js v l) : Duo base w F st v l := ⟨h.jr.raw, h.own, fun k e hf => h.ap k e (.inl hf)⟩
theorem Duo.below (h : Duo base w F st v l) (hb : Below w.heap.size w w') : Duo base w' F st v l := ⟨h.raw.below hb, h.own.below hb, h.ap⟩
theorem Duo.kept (h : Duo base w F st v l) {F' : Fp} (hR : Raw base w' F' st') (hf : ∀ k, foot F' k → foot F k ∨ w.heap.size ≤ k) (hK : Kept (foot F) w w') : Duo base w' F' st' v l ∧ Below base w w' := by
  refine ⟨⟨hR, h.own.flat str_flat hK (fun k e hf => h.ap k e hf), fun k e hf2 => ?_⟩, hK.below h.raw.base_le (fun k hf => h.raw.ge k hf)⟩
  rcases hf k hf2 with h1 | h1
  · exact h.ap k e h1
  · have := (h.own.lt k e).2; omega
theorem Duo.fuse (h : Duo base w F st v l) (n : Int) (hn1 : -9223372036854775808 ≤ n) (hn2 : n ≤ 9223372036854775807) (ho : st.off = false) :
    Calls Tryd.prog 14 #[.pointer (some ⟨F.b, 0, none⟩), .int .i64 n] w (fun e w' => e = .returned (.tuple #[]) ∧ Duo base w' F (wf st (max n (-1)) false) v l ∧ Below base w w') :=
  (fuse_any h.raw n hn1 hn2).mono fun e w' ⟨he, hR, hk⟩ => ⟨he, h.kept (by rw [← ho]; exact hR) (fun k hk => .inl hk) hk⟩
theorem Duo.crash (h : Duo base w F st v l) (hll : st.lo.length ≤ 1000000000) (ko : Option Addr) (kcap : Nat) (keep : List Int) (hkl : keep.length ≤ 9223372036854775807) (hkeep : SlAt (Rd.int .i64) (· < base) w ko keep) :
    Calls Tryd.prog 19 #[.pointer (some ⟨F.b, 0, none⟩), .slice ko keep.length kcap] w (fun e w' => e = .returned (.tuple #[]) ∧ Duo base w' { F with lv := .slice none 0 0 } (crashS st keep) v l ∧ Below base w w') :=
  (crash_any h.raw hll ko kcap keep hkl (hkeep.mono (fun b hb _ hf => by have := h.raw.ge b hf; omega))).mono fun e w' ⟨he, hR, hk⟩ => ⟨he, h.kept hR (fun k hk => .inl (foot_nil k hk)) hk⟩
/-- What Open leaves beside the list. -/
theorem Duo.made (h : Duo base w F st v l) {er : Int} (hM : MadePost base F st' er js2 w e w') :
    (er = 0 ∧ ∃ F' J2, e = .returned (.tuple #[.pointer (some ⟨J2.b, 0, none⟩), .int .i64 0]) ∧ Trio base w' F' st' J2 js2 v l ∧ F'.b = F.b ∧ Below base w w') ∨
    (er ≠ 0 ∧ ∃ F', e = .returned (.tuple #[.pointer none, .int .i64 er]) ∧ Duo base w' F' st' v l ∧ F'.b = F.b ∧ Below base w w') := by
  unfold MadePost at hM
  split at hM
  · rename_i h0
    obtain ⟨F', J2, he, hJ, hb, hf, hK⟩ := hM
    have hf1 : ∀ k, foot F' k → foot F k ∨ w.heap.size ≤ k := fun k hk => hf k (.inl hk)
    obtain ⟨hD, hB⟩ := h.kept hJ.raw hf1 hK
    refine .inl ⟨h0, F', J2, he, ⟨hJ, hD.own, fun k e hj => ?_⟩, hb, hB⟩
    rcases hf k hj with hj | hj
    · exact h.ap k e hj
    · have := (h.own.lt k e).2; omega
  · rename_i h0
    obtain ⟨he, F', hR, hb, hf, hK⟩ := hM
    obtain ⟨hD, hB⟩ := h.kept hR hf hK
    exact .inr ⟨h0, F', he, hD, hb, hB⟩
end
theorem beg_le (l : List ByteArray) : (begL (l.take 10)).2.recs.length ≤ 10 := by
  have h := begL_recs (l.take 10) beg0
  rw [List.length_take] at h
  have e0 : beg0.2.recs.length = 0 := rfl
  unfold begL
  omega
end Go.Proofs.YtaljgcdjkmpljaaDoor
