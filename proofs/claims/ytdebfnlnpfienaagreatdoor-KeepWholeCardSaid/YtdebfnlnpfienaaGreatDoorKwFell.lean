/- KeepWhole: what may stand on the plate, plain. -/
import Derived.Test.YtdebfnlnpfienaaGreatDoorKwKeep
import Derived.Test.YtdebfnlnpfienaaGreatDoorKe11
namespace Go.Proofs.YtdebfnlnpfienaaGreatDoor
open Go.RowKit Lift
set_option linter.unusedSimpArgs false
set_option linter.unusedVariables false

/-- The pairs that there may be behind it all. -/
def OkP (er : Int) (was : List KV) (last : List KW) (kv : List KV) : Prop := (er = 0 → kv = last.foldl kdo was) ∧ (er ≠ 0 → er ≠ 12 → kv = was) ∧ (kv = was ∨ kv = last.foldl kdo was)
/-- A plate that is about to crash. -/
def Fell (K : List Int) (er : Int) (was : List KV) (last : List KW) (st : St) : Prop := ∃ kv, OkP er was last kv ∧ KSay 80 1000 (crashS st K) kv
section
variable {st : St} {js : JSt} {ks : KSt} {K : List Int} {er : Int} {was : List KV} {last : List KW}
theorem KL.comFell (h : KL 80 st js ks) (hg : ks.gen + 1 ≤ 1000) (l : List KW) (K : List Int) : Fell K (comR st js ks l).er ks.kv l (comR st js ks l).st := by
  rcases h.com (by omega) (by omega) (B := 1000) (by omega) hg l with ⟨er, he, h1⟩ | ⟨h1, h2, h3, h4, h5, _⟩ | ⟨h1, _, _, h4⟩
  · rw [h1]
    exact ⟨ks.kv, ⟨fun h5 => by simp only at h5; omega, fun _ _ => rfl, .inl rfl⟩, h.say (by omega) K⟩
  · rw [h1]
    exact ⟨_, ⟨fun _ => h2, fun h5 => absurd rfl h5, .inr h2⟩, h4.say (by omega) K⟩
  · rw [h1]
    rcases h4 K with h5 | h5
    · exact ⟨_, ⟨fun h6 => by omega, fun _ h6 => absurd rfl h6, .inl rfl⟩, h5⟩
    · exact ⟨_, ⟨fun h6 => by omega, fun _ h6 => absurd rfl h6, .inr rfl⟩, h5⟩
theorem KL.compFell (h : KL 80 st js ks) (hg : ks.gen + 1 ≤ 1000) (K : List Int) : Fell K 0 ks.kv [] (compR st js ks).st := by
  have hO : OkP 0 ks.kv [] ks.kv := ⟨fun _ => rfl, fun h5 => absurd rfl h5, .inl rfl⟩
  rcases h.comp (by omega) (by omega) (B := 1000) (by omega) hg with h1 | ⟨h1, h2, h3, _⟩ | ⟨_, _, _, h4⟩
  · rw [h1]; exact ⟨_, hO, h.say (by omega) K⟩
  · have := h3.say (B := 1000) (by rw [h2]; exact hg) K
    rw [h2] at this
    exact ⟨_, hO, this⟩
  · exact ⟨_, hO, h4 K⟩
theorem Fell.len (h : Fell K er was last st) : st.no.length = 80 := by
  obtain ⟨kv, _, g, recs, h1, _, _⟩ := h
  rw [← crashS_len st K]; exact h1.len
theorem Fell.opened (h : Fell K er was last st) (f : Int) : ∃ ls : List (List KW), ((openQ (wf (crashS st K) f false)).2 = 0 → (openJs (wf (crashS st K) f false)).recs = ls.map recB) ∧
    (∀ l ∈ ls, l.any (fun c => !rightW c) = false ∧ l.length ≤ 1000 ∧ (recB l).size ≤ 100000000) ∧ ls.flatten.length ≤ 1000000 ∧
    (((openQ (wf (crashS st K) f false)).2 = 0 ∧ KL 80 (openQ (wf (crashS st K) f false)).1 (openJs (wf (crashS st K) f false)) (openK (wf (crashS st K) f false) ls) ∧ OkP er was last (openK (wf (crashS st K) f false) ls).kv ∧ (openK (wf (crashS st K) f false) ls).cnt ≤ 40000 ∧ (openK (wf (crashS st K) f false) ls).gen ≤ 1000) ∨
     ((openQ (wf (crashS st K) f false)).2 = 12 ∧ 0 ≤ f ∧ Fell K er was last (openQ (wf (crashS st K) f false)).1)) := by
  obtain ⟨kv, hO, g, recs, hX, hC, hgb⟩ := h
  obtain ⟨ls, h1, h2, h3⟩ := id hC
  have hXf := hX.wf f
  have hlen : ls.length ≤ 40 := by
    have e1 := hX.hf.enl
    have e2 := enOf_ge recs (pN 80 g)
    rw [h1, List.length_map] at e2
    rw [h1] at e1
    have e3 : hN 80 = 39 := rfl
    omega
  have hfl : ∀ (m : List (List KW)), (∀ l ∈ m, l.length ≤ 1000) → m.flatten.length ≤ 1000 * m.length := by
    intro m
    induction m with
    | nil => simp
    | cons a r ih =>
      intro hm
      have i1 := ih (fun l hl => hm l (List.mem_cons_of_mem _ hl))
      have i2 := hm a (List.mem_cons_self ..)
      simp only [List.flatten_cons, List.length_append, List.length_cons]
      omega
  have hfl2 := hfl ls (fun l hl => (h2 l hl).2.1)
  have hop := hXf.open (by omega) ls h1 (by rw [h3]; exact hC)
  refine ⟨ls, fun h0 => ?_, fun l hl => ⟨(h2 l hl).1, (h2 l hl).2.1, by have := (h2 l hl).2.2; omega⟩, by omega, ?_⟩
  · rcases hop with ⟨_, h5, _⟩ | ⟨h5, _⟩
    · exact h5
    · omega
  · rcases hop with ⟨h4, _, h6, h6g⟩ | ⟨h4, h5, h6⟩
    · exact .inl ⟨h4, h6, by show OkP er was last (ls.flatten.foldl kdo []); rw [h3]; exact hO, by show ls.flatten.length ≤ _; omega, by rw [h6g]; exact hgb⟩
    · exact .inr ⟨h4, h5, kv, hO, g, recs, h6 K, hC, hgb⟩
end
theorem form80 : (formR (St.new 80)).2 = 0 ∧ KL 80 (formR (St.new 80)).1 (JSt.new 2 39 0) KSt.new := by
  refine ⟨by decide +kernel, ⟨by decide +kernel, ⟨⟨by decide +kernel, by decide +kernel, by decide +kernel, by decide +kernel, by decide +kernel, by decide +kernel, trivial, ?_⟩, by decide, by decide +kernel, rfl⟩, by decide, rfl, by decide +kernel, by decide +kernel, by decide, rfl, Cont.nil⟩⟩
  have : (formR (St.new 80)).1.no.getD 2 [] = zer := by decide +kernel
  show NH ((formR (St.new 80)).1.no.getD 2 [])
  rw [this]; exact zer_nh
end Go.Proofs.YtdebfnlnpfienaaGreatDoor
