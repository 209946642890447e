/- JournalAgain holds: opened again it is the same, and writes nothing; with another generation it has no records. The row lists Go's own tables of UTF-8, tied to the program's text by the card. -/
import Derived.Test.YtaljgcdjkmpljaaDoorCard
import Derived.Test.YtaljgcdjkmpljaaDoorJnDuo
import Derived.PinnedBridge
import Derived.SevenTiedAt
namespace Go.Proofs.YtaljgcdjkmpljaaDoor
open Go.ChangeShapes Go.WideShapes Go.ChangeAt Go.RowKit Lift
open Go.ChangeMaps (open_string shut_string)
set_option linter.unusedSimpArgs false
set_option linter.unusedVariables false

theorem at_22 : Rd.str.slice.at Tryd.prog 22 := Rd.at_slice Tryd.underlying22 (by kernel_rfl) rStr_at (by decide)
theorem gen_nat {g : Int} (h : (Lit.int .u32 g).wf = true) : ∃ n : Nat, g = (n : Int) ∧ n < 4294967296 := by
  simp [Lit.wf, IntKind.min, IntKind.max, IntKind.signed, IntKind.bits] at h
  obtain ⟨n, rfl⟩ := Int.eq_ofNat_of_zero_le h.1
  exact ⟨n, rfl, by omega⟩
theorem openS_len (st : St) (js : JSt) : (openR st js).1.no.length = st.no.length := by
  unfold openR
  split
  · rfl
  · exact runOps_len _ _
set_option maxHeartbeats 8000000 in
set_option maxRecDepth 100000 in
theorem law_again (ao : Option Addr) (cap : Nat) (l : List ByteArray) (g : Int) (hwf : (Lit.int .u32 g).wf = true) (w : World) (h : SlArg Rd.str w ao cap l) : Calls Tryd.prog 4 #[.slice ao l.length cap, .int .u32 g] w (TruePost w) := by
  obtain ⟨gen, rfl, hgen⟩ := gen_nat hwf
  have hll : l.length ≤ maxLen := Nat.le_trans h.le h.max
  have hl := h.at'
  have HW := Lib.hid (works_any w)
  have HB := Lib.hid (fun W (hb : Below w.heap.size w W) => begun_any ao cap l W (hl.old hb).here hll)
  have hinv : BInv (begL (l.take 10)).1 (begL (l.take 10)).2 := begL_inv _ beg0_inv
  have hrl := beg_le l
  obtain ⟨p, hp⟩ : ∃ p, begL (l.take 10) = p := ⟨_, rfl⟩
  rw [hp] at HB hinv hrl
  have HINV := Lib.hid hinv
  clear hp hinv h hll hl hwf
  go_enter Tryd.func4, Tryd.ntmps4
  go_wp2_with fail
  refine HW.out.mono ?_
  rintro e w1 ⟨rfl, hb1⟩
  go_wp2_with fail
  refine (HB.out _ hb1).mono ?_
  rintro e w2 ⟨F, J, ao2, cap2, rfl, hT, hB2⟩
  have hs1 := hb1.size
  have hB12 := chain hb1 hB2
  have hoff := HINV.out.jn.hf.off
  have HD := Lib.hid hT.duo
  have HIM := Lib.hid (image_any hT.jr.raw)
  clear hT HW HB hB2
  go_wp2_with fail
  refine HIM.out.mono ?_
  rintro e w3 ⟨rfl, hb3⟩
  have HD3 := Lib.hid (HD.out.below hb3)
  have hB13 := chain hB12 hb3
  have HFU := Lib.hid (HD3.out.fuse 0 (by omega) (by omega) hoff)
  rw [show max (0 : Int) (-1) = 0 by decide] at HFU
  clear HD HIM hB12 hb3 hb1
  go_wp2_with fail
  refine HFU.out.mono ?_
  rintro e w4 ⟨rfl, hD4, hb4⟩
  have hB14 := hB13.trans (hb4.mono hs1)
  have HD4 := Lib.hid hD4
  obtain ⟨o1, o2⟩ := HINV.out.opened 0
  have HO := Lib.hid (open_any hD4.raw 1 38 7 (by omega) (by show 1 + 38 ≤ p.1.no.length; rw [HINV.out.len]; omega) (by omega) hD4.raw.base_le (by show p.1.lo.length ≤ _; rw [HINV.out.jn.hf.lo]; simp))
  rw [o1, o2] at HO
  clear HFU HD3 hD4 hb4 hB13 o1 o2
  go_wp2_with fail
  refine HO.out.mono ?_
  intro e w5 hM
  rcases HD4.out.made hM with ⟨_, F5, J5, rfl, hT5, hF5, hb5⟩ | ⟨hne, _⟩
  case inr => exact absurd rfl hne
  have hB15 := hB14.trans (hb5.mono hs1)
  have HA := Lib.hid (all_any hT5.jr 100 (by omega))
  rw [List.take_of_length_le (by omega)] at HA
  have HT5 := Lib.hid hT5
  clear hM HO HD4 hb5 hT5 hB14
  go_wp2_with (first
    | (go_at_call 17; refine (HA.out).mono ?_; rintro e w6 ⟨ao6, cap6, rfl, hO6, hb6⟩; have HT6 := Lib.hid (HT5.out.below hb6); have hO6' := Lib.hid hO6.here; have hB16 := chain hB15 hb6; clear hO6 hb6)
    | (go_at_call 16; refine (same_eq ao6 ao2 cap6 cap2 _ p.2.recs p.2.recs w6 hO6'.out HT6.out.own.here (by omega) rfl rfl).mono ?_; rintro e w7 ⟨rfl, hb7⟩; have HT7 := Lib.hid (HT6.out.below hb7).duo; have HI7 := Lib.hid (image_any HT7.out.raw); rw [hF5] at HI7; have hB17 := chain hB16 hb7; clear hb7)
    | (go_at_call 13; refine (HI7.out).mono ?_; rintro e w8 ⟨rfl, hb8⟩; have HT8 := Lib.hid (HT7.out.below hb8); have HDN := Lib.hid (down_any HT8.out.raw); rw [hF5] at HDN; have hB18 := chain hB17 hb8; clear hb8)
    | (go_at_call 18; refine (HDN.out).mono ?_; rintro e w9 ⟨rfl, rfl⟩; have HF9 := Lib.hid (HT8.out.fuse (-1) (by omega) (by omega) rfl); rw [hF5] at HF9)
    | fail)
  refine (HF9.out).mono ?_
  rintro e wa ⟨rfl, hDa, hba⟩
  rw [show max (-1 : Int) (-1) = -1 by decide] at hDa
  have hDa2 : Duo w1.heap.size wa F5 (wf p.1 (-1) false) (.slice ao2 p.2.recs.length cap2) p.2.recs := hDa
  have hBa := hB18.trans (hba.mono hs1)
  have HDa := Lib.hid hDa2
  have hro : (wf p.1 (-1) false).no.length = 40 := HINV.out.len
  have hHf : Hf (wf p.1 (-1) false) (1 + 38) 7 1 p.2.recs := by
    have := HINV.out.jn.hf.wf (-1)
    rwa [HINV.out.lim, HINV.out.gen] at this
  have HO := Lib.hid (open_any hDa2.raw 1 38 gen (by omega) (by omega) hgen hDa2.raw.base_le (by show p.1.lo.length ≤ _; rw [HINV.out.jn.hf.lo]; simp))
  rw [hF5] at HO
  clear HF9 HT8 HDN HI7 HT7 HT6 HT5 HA hDa hDa2 hba hB18 hB17 hB16 hB15 hO6'
  by_cases hg7 : gen = 7
  · subst hg7
    obtain ⟨o1, o2⟩ := HINV.out.opened (-1)
    rw [o1, o2] at HO
    clear hHf o1 o2
    go_wp2_with fail
    refine HO.out.mono ?_
    intro e wb hM
    rcases HDa.out.made hM with ⟨_, Fb, Jb, rfl, hTb, hFb, hbb⟩ | ⟨hne, _⟩
    case inr => exact absurd rfl hne
    have hBb := hBa.trans (hbb.mono hs1)
    clear hM HO HDa hTb hbb hBa
    go_wp2_with fail
    go_ret
    exact ⟨rfl, hBb⟩
  · obtain ⟨r1, r2⟩ := hHf.other (gen' := gen) (by omega) hgen hg7 (by show (-1 : Int) < 0; decide)
    rw [r2] at HO
    have hgi : ((gen : Int) == 7) = false := by simp; omega
    clear hHf r2
    go_wp2_with fail
    refine HO.out.mono ?_
    intro e wb hM
    rcases HDa.out.made hM with ⟨_, Fb, Jb, rfl, hTb, hFb, hbb⟩ | ⟨hne, _⟩
    case inr => exact absurd rfl hne
    have hBb := hBa.trans (hbb.mono hs1)
    have HL := Lib.hid (len_any hTb.jr)
    rw [r1] at HL
    clear hM HO HDa hTb hbb hBa r1
    go_wp2_with (first
      | (go_at_call 11; refine (HL.out).mono ?_; rintro e w8 ⟨rfl, rfl⟩)
      | fail)
    go_ret
    exact ⟨rfl, hBb⟩
theorem again_own : ownKnob Tryd.prog.godebug = none := by kernel_rfl
theorem again_laid : laidOutB Tryd.prog = true := by kernel_rfl
/-- A world in which the tables lie as the program's text lays them. -/
def again_first : Obj → Obj
  | .cells _ t frozen => .cells (Lib.firstTab.map (Value.int .u8)).toArray t frozen
  | o => o
def again_acc : Obj → Obj
  | .cells _ t frozen => .cells ((List.range 16).flatMap (fun i => [Value.int .u8 (Lib.accLo i : Int), Value.int .u8 (Lib.accHi i : Int)])).toArray t frozen
  | o => o
noncomputable def again_world (os : Os) : World :=
  { World.holding Tryd.prog os ⟨#[], #[], []⟩ with heap := ((World.holding Tryd.prog os ⟨#[], #[], []⟩).heap.modify 0 again_first).modify 1 again_acc }
theorem again_met (os : Os) : laidMet Tryd.prog Rows.journalAgainRow.laid ((again_world os).forCall (fun _ _ => 0) ⟨#[], #[.slice none 0 0, .int .u32 0], []⟩).memory :=
  laidMet_of_run' 8 (by kernel_rfl) (by kernel_rfl)
theorem again_reads (os : Os) {H : Type} (enc : TypeId × Value → H) : ∃ places, DataW.whole enc Tryd.prog ((again_world os).forCall (fun _ _ => 0) ⟨#[], #[.slice none 0 0, .int .u32 0], []⟩).memory Tryd.f4.params.toList Rows.journalAgainSpec.vars false (#[.slice none 0 0, .int .u32 0] : Array Value).toList 8 = some ([.nil, .lit (.int .u32 0)], [], places) :=
  ⟨[], by kernel_rfl⟩

set_option maxRecDepth 100000 in
theorem again_lifted (os : Os) (started : os.Started) (H : Type) (enc : TypeId × Value → H) (F : Stop.Interp) :
    ReturnsInHanded {} Tryd.checked os 4 .any ((OpenSpec.ofChange Rows.journalAgainSpec).preRow enc Tryd.prog Tryd.f4 Rows.journalAgainRow.domain false Rows.journalAgainRow.laid) (((OpenSpec.ofChange Rows.journalAgainSpec).at F).post enc Tryd.prog Tryd.f4 false true false false) := by
  obtain ⟨places, hx⟩ := again_reads os enc
  refine law_carded (C := Tryd.checked) 4 again_own started (by kernel_rfl) Tryd.func4 again_laid rfl (by kernel_rfl) Tryd.underlying4 (by kernel_rfl)
    (fun ds h => by match ds, h with | [_, _], _ => rfl)
    (witness_row_at (enc := enc) (C := Tryd.checked) false (again_world os) #[.slice none 0 0, .int .u32 0] rfl (by kernel_rfl) (by kernel_rfl) (by kernel_rfl)
      (OpenSpec.preRow_of_cond 8 hx (by kernel_rfl) (fun k hk => by cases hk) (by kernel_rfl) (again_met os))) ?_
  intro W base args ds p hval0 hA0 hfz hz0 hL hsh
  have hz : ∀ (j : Nat) t d, Tryd.f4.params.toList[j]? = some t → ds[j]? = some d → ∀ n ∈ d.weights Tryd.prog t, n ≤ reachBytes := hz0
  have hval : ∀ (j : Nat) t v, Tryd.f4.params[j]? = some t → args[j]? = some v → Value.okWide Tryd.prog W .any base t v := hval0
  have hA : DataW.TrodAll enc Tryd.prog W 0 (fun _ => true) true Tryd.f4.params.toList args.toList ds p := hA0
  rw [Tryd.params4] at hA hval
  obtain ⟨v0, vs0, d0, ds0, p0, q0, hargs, rfl, rfl, h0, r0⟩ := trodAll_cons hA
  obtain ⟨v1, vs1, d1, ds1, p1, q1, rfl, rfl, rfl, h1, r1⟩ := trodAll_cons r0
  obtain ⟨rfl, rfl, rfl⟩ := trodAll_nil r1
  obtain rfl : args = #[v0, v1] := by cases args; simp_all
  obtain ⟨l0, ao0, cap0, rfl, c0⟩ := Rd.arg_slice at_22 Tryd.underlying22 (hval 0 22 v0 rfl rfl) h0 (hz 0 22 d0 rfl rfl)
  obtain ⟨a1, rfl, _, _, w1⟩ := open_int Tryd.underlying35 (hval 1 35 v1 rfl rfl) h1
  exact law_again ao0 cap0 l0 a1 w1 W c0


theorem again_said : Rows.JournalAgainSaid :=
  OpenClaim.holds_of_cond 4 Tryd.f4 rfl rfl rfl rfl rfl rfl rfl ⟨rfl, rfl, rfl, rfl, rfl⟩ rfl rfl rfl rfl rfl (by kernel_rfl) Tryd.func4 (by kernel_rfl)
    (of_decide_eq_true (by kernel_rfl)) (by unfold Func.isWrapper; rw [if_neg (of_decide_eq_false (by kernel_rfl))]; exact ⟨rfl, rfl⟩)
    (fun os started H enc _ F => by rw [OpenClaim.pre_eq_preRow]; exact again_lifted os started H enc F)
theorem again_plain (f : FuncId) (fn : Func) (hf : Tryd.pinned.checked.prog.funcNamed "cardcase/cardcaselaw24.JournalAgain" = some f) (hfn : Tryd.pinned.checked.prog.funcs[f]? = some fn) :
    false = Tryd.pinned.checked.prog.looks [] ∧ ∀ (j : Nat) t, fn.params[j]? = some t → Tryd.pinned.checked.prog.wantsStandIn t = false := by
  obtain rfl : f = 4 := Option.some.inj ((show Tryd.prog.funcNamed "cardcase/cardcaselaw24.JournalAgain" = some 4 by kernel_rfl).symm.trans hf) |>.symm
  obtain rfl : fn = Tryd.f4 := (Option.some.inj (Tryd.func4.symm.trans hfn)).symm
  refine ⟨by kernel_rfl, fun j t ht => ?_⟩
  have hall : (Tryd.f4.params.toList.all fun t => !Tryd.prog.wantsStandIn t) = true := by kernel_rfl
  have hm := List.all_eq_true.1 hall t (by simpa using Array.mem_of_getElem? ht)
  exact Bool.not_eq_true' _ ▸ hm
/-- THE CARD. -/
theorem again_card : Rows.JournalAgainCardSaid :=
  Claim7.holds_tied_plain_at .later [] _ _ _ _ again_said (fun _ h => by cases h) (by kernel_rfl) (fun _ h => by cases h) journalAgain_row_tie rfl ⟨rfl, rfl⟩ (by kernel_rfl) rfl again_plain (by kernel_rfl)

end Go.Proofs.YtaljgcdjkmpljaaDoor
