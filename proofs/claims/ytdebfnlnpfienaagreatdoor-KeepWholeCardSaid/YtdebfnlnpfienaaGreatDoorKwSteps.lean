/- KeepWhole: steps of the law. -/
import Derived.Test.YtdebfnlnpfienaaGreatDoorKwFell
import Derived.Test.YtdebfnlnpfienaaGreatDoorKeLaw
import Derived.Test.YtdebfnlnpfienaaGreatDoorKeH
import Derived.Deep.CutBlock
import Derived.Deep.CutRange
namespace Go.Proofs.YtdebfnlnpfienaaGreatDoor
open Go.RowKit Lift Go.Maps
set_option linter.unusedSimpArgs false
set_option linter.unusedVariables false

theorem rIntsW_at : (Rd.int .i64).slice.at Tryz.prog 43 := Rd.at_slice Tryz.underlying43 (by kernel_rfl) (Rd.at_int Tryz.underlying3 (by kernel_rfl)) (by decide)
abbrev rCutW : Rd (List Int × List Int) := (Rd.int .i64).slice.pair (Rd.int .i64).slice
theorem rCutW_at : rCutW.at Tryz.prog 45 :=
  Rd.at_struct Tryz.underlying45 (by kernel_rfl) (Rd.atF_cons rIntsW_at rfl (Rd.atF_one rIntsW_at rfl))
theorem cutw_arg {w : World} {cs : Array Value} {p : List Int × List Int} (h : rCutW.rel (· < w.heap.size) w cs.toList p) :
    ∃ fo fc ko kc, cs = #[.slice fo p.1.length fc, .slice ko p.2.length kc] ∧ SlAt (Rd.int .i64) (· < w.heap.size) w fo p.1 ∧ SlAt (Rd.int .i64) (· < w.heap.size) w ko p.2 ∧ p.1.length ≤ maxLen ∧ p.2.length ≤ maxLen := by
  obtain ⟨c1, d1, h1, ⟨ao1, cap1, rfl, a2, a3, a4, a5⟩, ⟨ao2, cap2, rfl, b2, b3, b4, b5⟩⟩ := h
  refine ⟨ao1, cap1, ao2, cap2, ?_, a5, b5, by omega, by omega⟩
  exact Array.toList_inj.1 (by rw [h1]; rfl)
theorem intw_get {S : Nat → Prop} {w : World} {ao : Option Addr} {l : List Int} (h : SlAt (Rd.int .i64) S w ao l) {k : Nat} {c : Int} (hk : l[k]? = some c) : ∃ b off, ao = some ⟨b, off, none⟩ ∧ S b ∧ b < w.heap.size ∧ w.cell? ⟨b, off + k, none⟩ = some (.int .i64 c) ∧ Wf c := by
  obtain ⟨b, off, cs, rfl, hS, hlt, ⟨rfl, hw⟩, hc⟩ := h.get hk
  exact ⟨b, off, rfl, hS, hlt, by have := hc 0 _ rfl; simpa [Rd.int] using this, hw⟩
theorem format80 {base : Nat} {w : World} {F : Fp} (h : Raw base w F (St.new 80)) :
    Calls Tryz.prog 7 #[.pointer (some ⟨F.b, 0, none⟩)] w (fun e w' => ∃ F' J K, e = .returned (.tuple #[.pointer (some ⟨K.b, 0, none⟩), .int .i64 0]) ∧ KRaw base w' F' (formR (St.new 80)).1 J (JSt.new 2 39 0) K KSt.new ∧ F'.b = F.b ∧ (∀ k, kfoot F' J K k → foot F k ∨ w.heap.size ≤ k) ∧ Kept (foot F) w w') := by
  refine (kformat_any h (by simp [St.new]) (by simp [St.new])).mono ?_
  intro e w' hp
  unfold KMade at hp
  rw [form80.1, if_pos rfl] at hp
  exact hp
theorem plcN80 : plcN (St.new 80) 0 = 2 ∧ halfN (St.new 80) = 39 := by decide
/-- What the first loop keeps. -/
structure LoopK (B : Nat) (wr : World) (F : Fp) (st : St) (J : JF) (js : JSt) (K : KF) (ks : KSt) (pb i : Nat) : Prop where
  kr : KRaw B wr F st J js K ks
  fb : F.b = pb
  kl : KL 80 st js ks
  gn : ks.gen ≤ i
  fu : st.fu = -1
  cn : ks.cnt ≤ 502 * i
theorem LoopK.lo {B : Nat} {wr : World} {F : Fp} {st : St} {J : JF} {js : JSt} {K : KF} {ks : KSt} {pb i : Nat} (h : LoopK B wr F st J js K ks pb i) : st.lo = [] := h.kl.jn.hf.lo
/-- A commit of the first loop. -/
theorem LoopK.com {B : Nat} {w w' : World} {F : Fp} {st : St} {J : JF} {js : JSt} {K : KF} {ks : KSt} {pb i : Nat} (h : LoopK B w F st J js K ks pb i) (hi : i ≤ 100) {l : List KW} (hl : l.length ≤ 502) {v : Value} {e : Ending}
    (hp : KPost B F J K (comR st js ks l).st (comR st js ks l).js (comR st js ks l).ks v w e w') :
    e = .returned v ∧ ∃ F' st' J' js' ks', LoopK B w' F' st' J' js' K ks' pb (i + 1) ∧ Below B w w' := by
  obtain ⟨F1, J1, he, hK1, hb1, hf1, hk1⟩ := hp
  have hB : Below B w w' := hk1.below h.kr.jr.raw.base_le (fun k hk => h.kr.ge k hk)
  refine ⟨he, F1, _, J1, _, _, ⟨hK1, hb1.trans h.fb, ?_, ?_, ?_, ?_⟩, hB⟩
  all_goals
    have hg := h.gn; have hcn := h.cn; have hfu := h.fu
    rcases h.kl.com (by omega) (by omega) (B := 1000) (by omega) (by omega) l with ⟨er, he, h1⟩ | ⟨h1, h2, h3, h4, h5, h6⟩ | ⟨_, h2, _⟩
  · rw [h1]; exact h.kl
  · exact h4
  · omega
  · rw [h1]; simp only; omega
  · omega
  · omega
  · rw [h1]; exact hfu
  · rw [h6 (by omega)]; exact hfu
  · omega
  · rw [h1]; simp only; omega
  · omega
  · omega
theorem kfuse {base : Nat} {w : World} {F : Fp} {st : St} {J : JF} {js : JSt} {K : KF} {ks : KSt} (h : KRaw base w F st J js K ks) (m : Nat) (hq : (-9223372036854775808 ≤ (m : Int) ∧ (m : Int) ≤ 9223372036854775807) ∧ max (m : Int) (-1) = (m : Int)) (ho : st.off = false) :
    Calls Tryz.prog 15 #[.pointer (some ⟨F.b, 0, none⟩), .int .i64 m] w (fun e w' => e = .returned (.tuple #[]) ∧ KS base F J K (wf st m false) js ks w w') := by
  refine (fuse_any h.jr.raw m hq.1.1 hq.1.2).mono ?_
  rintro e w' ⟨he, hR, hk⟩
  rw [hq.2] at hR
  have hR2 : Raw base w' F (wf st m false) := by unfold wf; rw [← ho]; exact hR
  exact ⟨he, h.plate ⟨F, hR2, rfl, fun k hk => .inl hk, hk⟩ rfl⟩
/-- What there is behind the commit (and the Compact). -/
structure MidK (w w1 wx : World) (F : Fp) (st : St) (pb : Nat) (a11 : Option Addr) (c11 : Nat) (was : List KV) (a1 : Option Addr) (last : List KW) (er : Int) (Kp : List Int) : Prop where
  raw : Raw w1.heap.size wx F st
  fb : F.b = pb
  lo : st.lo.length ≤ 50000
  fell : Fell Kp er was last st
  sw : SlAt rKV (fun b => ¬ foot F b) wx a11 was
  cw : a11 = none → c11 = 0
  wn : was.length ≤ 640
  sl : SlAt rKw (· < w.heap.size) w a1 last
  ln : last.length ≤ 502
  below : Below w1.heap.size w1 wx
/-- What an opened keep stands on. -/
structure StdK (w1 wx : World) (F : Fp) (st : St) (J : JF) (js : JSt) (K : KF) (ks : KSt) (pb : Nat) (a11 : Option Addr) (was : List KV) (last : List KW) (er : Int) : Prop where
  kr : KRaw w1.heap.size wx F st J js K ks
  fb : F.b = pb
  kl : KL 80 st js ks
  ok : OkP er was last ks.kv
  cn : ks.cnt ≤ 40000
  gn : ks.gen ≤ 1000
  sw : SlAt rKV (fun b => ¬ foot F b) wx a11 was
  below : Below w1.heap.size w1 wx
/-- Behind a crash, with so much power. -/
structure CrK (w1 wx : World) (F : Fp) (st : St) (f : Int) (pb : Nat) (a11 : Option Addr) (was : List KV) (last : List KW) (er : Int) (Kp : List Int) : Prop where
  raw : Raw w1.heap.size wx F (wf (crashS st Kp) f false)
  fb : F.b = pb
  fell : Fell Kp er was last st
  sw : SlAt rKV (fun b => ¬ foot F b) wx a11 was
  below : Below w1.heap.size w1 wx
theorem feet_on {w w' : World} {F F' : Fp} {a : Option Addr} {l : List KV} (h : SlAt rKV (fun b => ¬ foot F b) w a l) (hk : Kept (foot F) w w') (hf : ∀ k, foot F' k → foot F k ∨ w.heap.size ≤ k) : SlAt rKV (fun b => ¬ foot F' b) w' a l :=
  ((h.mono (S' := fun b => ¬ foot F b ∧ b < w.heap.size) (fun b h1 h2 => ⟨h1, h2⟩)).kept hk (fun b hb _ => hb.1)).mono (fun b hb _ hf' => by
    rcases hf b hf' with h1 | h1
    · exact hb.1 h1
    · omega)
section
variable {w w1 wx : World} {F : Fp} {st : St} {pb : Nat} {a11 a1 : Option Addr} {c11 : Nat} {was : List KV} {last : List KW} {er : Int} {Kp : List Int}
theorem MidK.crash (h : MidK w w1 wx F st pb a11 c11 was a1 last er Kp) (ko : Option Addr) (kc : Nat) (hkl : Kp.length ≤ 9223372036854775807) (hk : SlAt (Rd.int .i64) (· < w1.heap.size) wx ko Kp) :
    Calls Tryz.prog 16 #[.pointer (some ⟨pb, 0, none⟩), .slice ko Kp.length kc] wx (fun e w' => e = .returned (.tuple #[]) ∧ ∃ F', CrK w1 w' F' st (-1) pb a11 was last er Kp) := by
  obtain rfl := h.fb
  refine (crash_any h.raw (by have := h.lo; omega) ko kc Kp hkl (hk.mono (fun b hb _ hf => by have := h.raw.ge b hf; omega))).mono ?_
  rintro e w' ⟨he, hR, hK⟩
  refine ⟨he, { F with lv := .slice none 0 0 }, hR, rfl, h.fell, feet_on h.sw hK (fun k hk => ?_), h.below.trans (hK.below h.below.size (fun k hk => h.raw.ge k hk))⟩
  rcases hk with hk | hk | hk | hk
  · exact .inl (.inl hk)
  · exact .inl (.inr (.inl hk))
  · exact .inl (.inr (.inr (.inl hk)))
  · cases hk
theorem CrK.fuse {f : Int} (h : CrK w1 wx F st f pb a11 was last er Kp) (m : Nat) (hq : (-9223372036854775808 ≤ (m : Int) ∧ (m : Int) ≤ 9223372036854775807) ∧ max (m : Int) (-1) = (m : Int)) :
    Calls Tryz.prog 15 #[.pointer (some ⟨pb, 0, none⟩), .int .i64 m] wx (fun e w' => e = .returned (.tuple #[]) ∧ ∃ F', CrK w1 w' F' st m pb a11 was last er Kp) := by
  obtain rfl := h.fb
  refine (fuse_any h.raw m hq.1.1 hq.1.2).mono ?_
  rintro e w' ⟨he, hR, hK⟩
  rw [hq.2] at hR
  exact ⟨he, F, hR, rfl, h.fell, feet_on h.sw hK (fun k hk => .inl hk), h.below.trans (hK.below h.below.size (fun k hk => h.raw.ge k hk))⟩
theorem CrK.open {f : Int} (h : CrK w1 wx F st f pb a11 was last er Kp) (hm : MidK w w1 wx F st pb a11 c11 was a1 last er Kp ∨ (a11 = none → c11 = 0) ∧ was.length ≤ 640 ∧ SlAt rKw (· < w.heap.size) w a1 last ∧ last.length ≤ 502) :
    Calls Tryz.prog 17 #[.pointer (some ⟨pb, 0, none⟩)] wx (fun e w' => (∃ F' st' J js K ks, e = .returned (.tuple #[.pointer (some ⟨K.b, 0, none⟩), .int .i64 0]) ∧ Hid (StdK w1 w' F' st' J js K ks pb a11 was last er)) ∨
      (0 ≤ f ∧ ∃ F' st', e = .returned (.tuple #[.pointer none, .int .i64 12]) ∧ Hid (MidK w w1 w' F' st' pb a11 c11 was a1 last er Kp))) := by
  obtain rfl := h.fb
  have hm2 : (a11 = none → c11 = 0) ∧ was.length ≤ 640 ∧ SlAt rKw (· < w.heap.size) w a1 last ∧ last.length ≤ 502 := by
    rcases hm with hm | hm
    · exact ⟨hm.cw, hm.wn, hm.sl, hm.ln⟩
    · exact hm
  obtain ⟨ls, h1, h2, h3, h4⟩ := h.fell.opened f
  have hlen : (wf (crashS st Kp) f false).no.length = 80 := by show (crashS st Kp).no.length = 80; rw [crashS_len, h.fell.len]
  have hlo0 : (wf (crashS st Kp) f false).lo = [] := rfl
  have hlo := openQ_lo (st := wf (crashS st Kp) f false)
  rw [hlo0] at hlo
  refine (kopen_any h.raw (by omega) (by rw [hlo0]; simp) ls h1 h2 h3).mono ?_
  intro e w' hp
  unfold KMade at hp
  rcases h4 with ⟨h5, h6, h7, h8, h9⟩ | ⟨h5, h6, h7⟩
  · rw [h5, if_pos rfl] at hp
    obtain ⟨F', J, K, he, hK, hb, hf, hk⟩ := hp
    exact .inl ⟨F', _, J, _, K, _, he, Lib.hid ⟨hK, hb, h6, h7, h8, h9, feet_on h.sw hk (fun k hk => hf k (.inl (.inl hk))), h.below.trans (hk.below h.below.size (fun k hk => h.raw.ge k hk))⟩⟩
  · rw [h5, if_neg (by decide)] at hp
    obtain ⟨he, F', hR, hb, hf, hk⟩ := hp
    exact .inr ⟨h6, F', _, he, Lib.hid ⟨hR, hb, by simp at hlo; omega, h7, feet_on h.sw hk hf, hm2.1, hm2.2.1, hm2.2.2.1, hm2.2.2.2, h.below.trans (hk.below h.below.size (fun k hk => h.raw.ge k hk))⟩⟩
theorem StdK.fuse {J : JF} {js : JSt} {K : KF} {ks : KSt} (h : StdK w1 wx F st J js K ks pb a11 was last er) :
    Calls Tryz.prog 15 #[.pointer (some ⟨pb, 0, none⟩), .int .i64 (-1)] wx (fun e w' => e = .returned (.tuple #[]) ∧ ∃ F' J', Hid (StdK w1 w' F' (wf st (-1) false) J' js K ks pb a11 was last er)) := by
  obtain rfl := h.fb
  refine (fuse_any h.kr.jr.raw (-1) (by omega) (by omega)).mono ?_
  rintro e w' ⟨he, hR, hk⟩
  have hR2 : Raw w1.heap.size w' F (wf st (-1) false) := by unfold wf; rw [← h.kl.jn.hf.off]; exact hR
  obtain ⟨F', J', hK, hb, hf, hk2⟩ := h.kr.plate ⟨F, hR2, rfl, fun k hk => .inl hk, hk⟩ rfl
  have hB : Below w1.heap.size w1 w' := h.below.trans (hk.below h.below.size (fun k hk => h.kr.jr.raw.ge k hk))
  obtain ⟨F2, J2, g1, g2, g3⟩ : ∃ F2 J2, KRaw w1.heap.size w' F2 (wf st (-1) false) J2 js K ks ∧ F2.b = F.b ∧ ∀ k, foot F2 k → foot F k ∨ wx.heap.size ≤ k :=
    ⟨F, J, h.kr.apart hR2 rfl (fun k hk' hh => (h.kr.own4 k hk').1 hh) hk (fun k hk' => (h.kr.own4 k hk').1) rfl, rfl, fun k hk => .inl hk⟩
  exact ⟨he, F2, J2, Lib.hid ⟨g1, g2, h.kl.wf (-1), h.ok, h.cn, h.gn, feet_on h.sw hk g3, hB⟩⟩
end
end Go.Proofs.YtdebfnlnpfienaaGreatDoor
