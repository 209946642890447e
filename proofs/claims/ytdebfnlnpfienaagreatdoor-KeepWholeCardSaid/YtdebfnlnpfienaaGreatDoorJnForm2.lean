/- Format: the program's. -/
import Derived.Test.YtdebfnlnpfienaaGreatDoorJnAp
import Derived.Test.YtdebfnlnpfienaaGreatDoorJnFormat
namespace Go.Proofs.YtdebfnlnpfienaaGreatDoor
open Go.RowKit Lift
set_option linter.unusedSimpArgs false
set_option linter.unusedVariables false

/-- What making a journal leaves: a journal, or none and the error. -/
def MadePost (base : Nat) (F : Fp) (st : St) (er : Int) (js : JSt) (w : World) (e : Ending) (w' : World) : Prop :=
  if er = 0 then ∃ F' J, e = .returned (.tuple #[.pointer (some ⟨J.b, 0, none⟩), .int .i64 0]) ∧ JRaw base w' F' st J js ∧ F'.b = F.b ∧ (∀ k, jfoot F' J k → foot F k ∨ w.heap.size ≤ k) ∧ Kept (foot F) w w'
  else e = .returned (.tuple #[.pointer none, .int .i64 er]) ∧ PlS base F st w w'
def clearOps (a : Nat) : List Step := [some (a, ⟨#[]⟩), none]
set_option maxHeartbeats 1000000 in
set_option maxRecDepth 100000 in
theorem format_any {base : Nat} {w : World} {F : Fp} {st : St} (h : Raw base w F st) (a sz gen : Nat) (h1 : 2 ≤ sz) (h2 : a + sz ≤ st.no.length) (hg : gen < 4294967296) (hb : base ≤ w.heap.size) (hlo : st.lo.length ≤ 1000000) :
    Calls Tryz.prog 21 #[.pointer (some ⟨F.b, 0, none⟩), .int .i64 a, .int .i64 sz, .int .u32 gen] w (MadePost base F (runOps st (clearOps a)).1 (runOps st (clearOps a)).2 (JSt.new a sz gen) w) := by
  have HP := Lib.hid (place_ok h a sz gen h1 h2 hg hb)
  have H := Lib.hid h
  have hn2 := h.n2
  have hl := runOps_len (clearOps a) st
  clear h
  obtain ⟨⟨st2, er⟩, hr⟩ : ∃ r, runOps st (clearOps a) = r := ⟨_, rfl⟩
  have HR := Lib.hid hr
  rw [hr] at hl ⊢
  simp only at hl ⊢
  clear hr
  go_enter Tryz.func21, Tryz.ntmps21
  go_wp2_with fail
  refine HP.out.mono ?_
  rintro e w1 ⟨rfl, hJ, hb1⟩
  have HC := Lib.hid (clear_any hJ.raw a (by omega) (by omega))
  go_wp2_with fail
  refine HC.out.mono ?_
  intro e w2 hp
  obtain ⟨he, hs⟩ := hp.s
  have hs2 : PlS base F st2 w1 w2 := by have := HR.out; unfold clearOps at this; rw [this] at hs; exact hs
  have he2 : e = .returned (.int .i64 er) := by have := HR.out; unfold clearOps at this; rw [this] at he; exact he
  subst he2
  clear he hs hp HC HP
  have hz := hb1.size
  by_cases h0 : er = 0
  · subst h0
    have HF := Lib.hid hs2
    obtain ⟨F', hR', hb', hft, hk⟩ := hs2
    have hJ2 := Lib.hid (hJ.plate hR' hb' hft hk hl)
    clear hJ hR'
    go_wp2_with fail
    go_ret2
    unfold MadePost
    rw [if_pos rfl]
    refine ⟨F', _, rfl, hJ2.out, hb', fun k hk => ?_, (Kept.of_below hb1 (fun _ => False)).trans hk (fun _ _ h => h.elim) (fun _ _ h => h)⟩
    rcases hk with h | h | h
    · exact (hft k h).imp id (fun h => by omega)
    · exact .inr (by rw [h]; exact Nat.le_refl _)
    · cases h
  · have hx2 : (er == 0) = false := by simpa using h0
    have HS := Lib.hid (hs2.back hb1)
    clear hJ hs2
    go_wp2_with fail
    go_ret2
    unfold MadePost
    rw [if_neg h0]
    exact ⟨rfl, HS.out⟩
end Go.Proofs.YtdebfnlnpfienaaGreatDoor
