/- JournalRoom holds: a record is taken just if it has no more bytes than are left; then as many fewer are left as it took. The row lists Go's own tables of UTF-8, tied to the program's text by the card. -/
import Derived.Test.YtaljgcdjkmpljaaDoorCard
import Derived.Test.YtaljgcdjkmpljaaDoorJnF
import Derived.PinnedBridge
import Derived.SevenTiedAt
namespace Go.Proofs.YtaljgcdjkmpljaaDoor
open Go.ChangeShapes Go.WideShapes Go.ChangeAt Go.RowKit Lift
open Go.ChangeMaps (open_string shut_string)
set_option linter.unusedSimpArgs false
set_option linter.unusedVariables false

theorem at_22 : Rd.str.slice.at Tryd.prog 22 := Rd.at_slice Tryd.underlying22 (by kernel_rfl) rStr_at (by decide)
def zerB (n : Nat) : ByteArray := ⟨(List.replicate n 0).toArray⟩
theorem zerB_size (n : Nat) : (zerB n).size = n := by show (List.replicate n 0).toArray.size = n; simp
theorem zeros_text {w : World} {base g n : Nat} (h : w.ownsRow base 5 1 (.slice (some ⟨g, 0, none⟩) n n) n (madeCells #[Value.int .u8 0] (n * 1)).toList) : (convert 32 9 (.slice (some ⟨g, 0, none⟩) n n)).run Tryd.prog w = .ok (.string (zerB n)) w := by
  have h2 := run_convert_bytes_back (P := Tryd.prog) w 32 9 5 ⟨g, 0, none⟩ n (List.replicate n 0) Tryd.underlying32 Tryd.underlying5 Tryd.underlying9 ?_
  · rw [List.length_replicate] at h2
    exact h2
  · intro j hj
    rw [List.length_replicate] at hj
    obtain ⟨hx, h | ⟨g', cap, cur, e, _, hg, _, _, hs, ht⟩⟩ := h
    · exact absurd h.1 (by simp)
    · injection e with e1 e2 e3
      injection e1 with e1
      injection e1 with e1
      subst e1
      rw [Addr.add_lit]
      have hv : cur[0 + j]? = some (Value.int .u8 0) := by
        have h3 := congrArg (fun l => l[j]?) ht
        simp only [List.getElem?_take, Nat.mul_one, if_pos hj] at h3
        have h4 : (madeCells #[Value.int .u8 0] n).toList[j]? = some (Value.int .u8 0) := by
          rw [List.getElem?_eq_getElem (by simp [madeCells]; exact hj)]
          simp [madeCells, Nat.mod_one]
        rw [h4] at h3
        simpa using h3
      have := cell_of_row w _ (0 + j) _ _ _ hg
      rw [hv] at this
      simpa using this
theorem room_left {st : St} {js : JSt} (h : BInv st js) {s : ByteArray} (hr : (s.size : Int) ≤ leftI js) : (leftI js - 64 * (needN s.size : Int) < 0 → leftI (moreJ js s) = -1) ∧ (0 ≤ leftI js - 64 * (needN s.size : Int) → leftI (moreJ js s) = leftI js - 64 * (needN s.size : Int)) := by
  have hl := h.lim
  have hb : -1 ≤ leftI js := by unfold leftI; omega
  unfold leftI moreJ at *
  simp only at *
  rw [hl] at *
  omega
set_option maxHeartbeats 8000000 in
set_option maxRecDepth 100000 in
theorem law_room (ao : Option Addr) (cap : Nat) (l : List ByteArray) (n : Int) (hwf : (Lit.int .i64 n).wf = true) (w : World) (h : SlArg Rd.str w ao cap l) : Calls Tryd.prog 3 #[.slice ao l.length cap, .int .i64 n] w (TruePost w) := by
  have hll : l.length ≤ maxLen := Nat.le_trans h.le h.max
  have hl := h.at'
  have HW := Lib.hid (works_any w)
  have HB := Lib.hid (fun W (hb : Below w.heap.size w W) => begun_any ao cap l W (hl.old hb).here hll)
  obtain ⟨mo, hm1, hm2, hm3, hm4⟩ := mod_index n 2600 (by omega) (by omega)
  have hm2' : IntKind.u64.wrap 2600 = 2600 := hm2
  have hm3' : (IntKind.u64.wrap n).tmod 2600 = (mo : Int) := hm3
  have hinv : BInv (begL (l.take 10)).1 (begL (l.take 10)).2 := begL_inv _ beg0_inv
  obtain ⟨p, hp⟩ : ∃ p, begL (l.take 10) = p := ⟨_, rfl⟩
  rw [hp] at HB hinv
  have HINV := Lib.hid hinv
  have hrl : p.2.recs.length ≤ 10 := by
    have h := begL_recs (l.take 10) beg0
    have e : (l.take 10).foldl begT beg0 = p := hp
    rw [e, List.length_take] at h
    have e0 : beg0.2.recs.length = 0 := rfl
    omega
  obtain ⟨i0, hi, hz0, hz1, hz2⟩ := info_parts u8_row
  have HI := Lib.hid hi; have HZ0 := Lib.hid hz0; have HZ1 := Lib.hid hz1; have HZ2 := Lib.hid hz2
  have hlo : p.1.lo.length ≤ 1000000 := by rw [hinv.jn.hf.lo]; simp
  have happ := Lib.hid (hinv.jn.app (by rw [hinv.fu]; decide) (zerB mo))
  have hlb : -1 ≤ leftI p.2 ∧ leftI p.2 ≤ 1048576 := leftI_le p.2
  have HRL := Lib.hid (fun hr => room_left hinv (s := zerB mo) hr)
  have HN := Lib.hid (fun W => need_any (mo : Int) (Wf.of (by omega) (by omega)) W)
  have hnn : needI (mo : Int) = (needN mo : Int) := needI_nat (by omega)
  have hnb : needN mo ≤ 100 := by unfold needN; omega
  have HNN := Lib.hid hnn
  clear hi hz0 hz1 hz2 hp hm2 hm3 hinv h hll hl hnn
  go_enter Tryd.func3, Tryd.ntmps3
  go_wp2_with fail
  refine HW.out.mono ?_
  rintro e w1 ⟨rfl, hb1⟩
  go_wp2_with fail
  refine (HB.out _ hb1).mono ?_
  rintro e w2 ⟨F, J, ao2, cap2, rfl, hT, hB2⟩
  have HL := Lib.hid (left_any hT.jr)
  have HT := Lib.hid hT
  have hB12 := chain hb1 hB2
  have hs1 := hb1.size
  clear hT HW HB hB2
  go_wp2_with fail
  refine HL.out.mono ?_
  rintro e w3 ⟨rfl, hb3⟩
  have HT3 := Lib.hid (HT.out.below hb3)
  have hB13 := chain hB12 hb3
  clear HL HT hB12 hb3
  go_wp2_with (at_make; refine wpList_make_full _ rfl _ _ 32 rfl w3.heap.size 5 i0 (.int .u8 0) 1 Tryd.underlying32 HI.out HZ0.out HZ1.out _ _ _ _ mo rfl rfl (by omega) (by omega) (by rw [HZ2.out]; omega) (by unfold maxLen; omega) (Nat.le_refl _) ?_; intro w5 hO5 hg5; have hcv := zeros_text hO5)
  have hb5 : Below w3.heap.size w3 w5 := (Kept.of_grown hg5).below (Nat.le_refl _) (fun k e => by cases e)
  have HT5 := Lib.hid (HT3.out.below hb5)
  have hB15 := chain hB13 hb5
  have HA := Lib.hid (append_any HT5.out.jr (zerB mo) (by rw [zerB_size]; unfold maxTx; omega) hlo)
  clear hO5 hg5 HT3 hb5 hB13 hcv
  obtain ⟨_, _, ha⟩ := happ.out
  rcases ha with ⟨h1, h2, h3, h4⟩ | ⟨h1, h2, h4⟩
  · rw [h2, h3, h4] at HA
    rw [zerB_size] at h1
    refine HA.out.mono ?_
    intro e w6 hp
    obtain ⟨rfl, F6, J6, hT6, hF6, hJ6, hb6⟩ := HT5.out.post hp
    have HL6 := Lib.hid (left_any hT6.jr)
    rw [hJ6] at HL6
    have HT6 := Lib.hid hT6
    have hB16 := hB15.trans (hb6.mono hs1)
    clear hT6 HT5 HA hp happ HINV
    go_wp2_with (first
      | (go_at_call 9; refine (HL6.out).mono ?_; rintro e w7 ⟨rfl, hb7⟩; have HL7 := Lib.hid (len_any (HT6.out.below hb7).jr); rw [hJ6] at HL7)
      | (go_at_call 11; refine (HL7.out).mono ?_; rintro e w8 ⟨rfl, rfl⟩)
      | fail)
    go_ret
    exact ⟨rfl, chain hB16 hb7⟩
  · rw [h2, h4] at HA
    refine HA.out.mono ?_
    intro e w6 hp
    obtain ⟨rfl, F6, J6, hT6, hF6, hJ6, hb6⟩ := HT5.out.post hp
    obtain ⟨hw1, hw2⟩ := HRL.out h1
    rw [zerB_size] at h1 hw1 hw2
    have HL6 := Lib.hid (left_any hT6.jr)
    rw [hJ6] at HL6
    have HT6 := Lib.hid hT6
    have hB16 := hB15.trans (hb6.mono hs1)
    have HN6 := Lib.hid (HN.out w6)
    rw [HNN.out] at HN6
    have hrm : (moreJ p.2 (zerB mo)).recs.length = p.2.recs.length + 1 := by simp [moreJ]
    have hnot : ¬ leftI p.2 < (mo : Int) := by omega
    clear hT6 HT5 HA hp happ HINV HRL HN h4
    by_cases hneg : leftI p.2 - 64 * (needN mo : Int) < 0
    · rw [hw1 hneg] at HL6
      have hneg2 : decide (leftI p.2 - 64 * (needN mo : Int) < 0) = true := by simpa using hneg
      clear hw1 hw2
      go_wp2_with (first
        | (go_at_call 12; refine (HN6.out).mono ?_; rintro e w7 ⟨rfl, rfl⟩)
        | (go_at_call 9; refine (HL6.out).mono ?_; rintro e w7 ⟨rfl, hb7⟩; have HL7 := Lib.hid (len_any (HT6.out.below hb7).jr); rw [hJ6] at HL7; rw [hrm] at HL7)
        | (go_at_call 11; refine (HL7.out).mono ?_; rintro e w8 ⟨rfl, rfl⟩)
        | fail)
      go_ret
      exact ⟨rfl, chain hB16 hb7⟩
    · rw [hw2 (by omega)] at HL6
      clear hw1 hw2
      go_wp2_with (first
        | (go_at_call 12; refine (HN6.out).mono ?_; rintro e w7 ⟨rfl, rfl⟩)
        | (go_at_call 9; refine (HL6.out).mono ?_; rintro e w7 ⟨rfl, hb7⟩; have HL7 := Lib.hid (len_any (HT6.out.below hb7).jr); rw [hJ6] at HL7; rw [hrm] at HL7)
        | (go_at_call 11; refine (HL7.out).mono ?_; rintro e w8 ⟨rfl, rfl⟩)
        | fail)
      go_ret
      exact ⟨rfl, chain hB16 hb7⟩
theorem room_own : ownKnob Tryd.prog.godebug = none := by kernel_rfl
theorem room_laid : laidOutB Tryd.prog = true := by kernel_rfl
/-- A world in which the tables lie as the program's text lays them. -/
def room_first : Obj → Obj
  | .cells _ t frozen => .cells (Lib.firstTab.map (Value.int .u8)).toArray t frozen
  | o => o
def room_acc : Obj → Obj
  | .cells _ t frozen => .cells ((List.range 16).flatMap (fun i => [Value.int .u8 (Lib.accLo i : Int), Value.int .u8 (Lib.accHi i : Int)])).toArray t frozen
  | o => o
noncomputable def room_world (os : Os) : World :=
  { World.holding Tryd.prog os ⟨#[], #[], []⟩ with heap := ((World.holding Tryd.prog os ⟨#[], #[], []⟩).heap.modify 0 room_first).modify 1 room_acc }
theorem room_met (os : Os) : laidMet Tryd.prog Rows.journalRoomRow.laid ((room_world os).forCall (fun _ _ => 0) ⟨#[], #[.slice none 0 0, .int .i64 0], []⟩).memory :=
  laidMet_of_run' 8 (by kernel_rfl) (by kernel_rfl)
theorem room_reads (os : Os) {H : Type} (enc : TypeId × Value → H) : ∃ places, DataW.whole enc Tryd.prog ((room_world os).forCall (fun _ _ => 0) ⟨#[], #[.slice none 0 0, .int .i64 0], []⟩).memory Tryd.f3.params.toList Rows.journalRoomSpec.vars false (#[.slice none 0 0, .int .i64 0] : Array Value).toList 8 = some ([.nil, .lit (.int .i64 0)], [], places) :=
  ⟨[], by kernel_rfl⟩

set_option maxRecDepth 100000 in
theorem room_lifted (os : Os) (started : os.Started) (H : Type) (enc : TypeId × Value → H) (F : Stop.Interp) :
    ReturnsInHanded {} Tryd.checked os 3 .any ((OpenSpec.ofChange Rows.journalRoomSpec).preRow enc Tryd.prog Tryd.f3 Rows.journalRoomRow.domain false Rows.journalRoomRow.laid) (((OpenSpec.ofChange Rows.journalRoomSpec).at F).post enc Tryd.prog Tryd.f3 false true false false) := by
  obtain ⟨places, hx⟩ := room_reads os enc
  refine law_carded (C := Tryd.checked) 4 room_own started (by kernel_rfl) Tryd.func3 room_laid rfl (by kernel_rfl) Tryd.underlying4 (by kernel_rfl)
    (fun ds h => by match ds, h with | [_, _], _ => rfl)
    (witness_row_at (enc := enc) (C := Tryd.checked) false (room_world os) #[.slice none 0 0, .int .i64 0] rfl (by kernel_rfl) (by kernel_rfl) (by kernel_rfl)
      (OpenSpec.preRow_of_cond 8 hx (by kernel_rfl) (fun k hk => by cases hk) (by kernel_rfl) (room_met os))) ?_
  intro W base args ds p hval0 hA0 hfz hz0 hL hsh
  have hz : ∀ (j : Nat) t d, Tryd.f3.params.toList[j]? = some t → ds[j]? = some d → ∀ n ∈ d.weights Tryd.prog t, n ≤ reachBytes := hz0
  have hval : ∀ (j : Nat) t v, Tryd.f3.params[j]? = some t → args[j]? = some v → Value.okWide Tryd.prog W .any base t v := hval0
  have hA : DataW.TrodAll enc Tryd.prog W 0 (fun _ => true) true Tryd.f3.params.toList args.toList ds p := hA0
  rw [Tryd.params3] at hA hval
  obtain ⟨v0, vs0, d0, ds0, p0, q0, hargs, rfl, rfl, h0, r0⟩ := trodAll_cons hA
  obtain ⟨v1, vs1, d1, ds1, p1, q1, rfl, rfl, rfl, h1, r1⟩ := trodAll_cons r0
  obtain ⟨rfl, rfl, rfl⟩ := trodAll_nil r1
  obtain rfl : args = #[v0, v1] := by cases args; simp_all
  obtain ⟨l0, ao0, cap0, rfl, c0⟩ := Rd.arg_slice at_22 Tryd.underlying22 (hval 0 22 v0 rfl rfl) h0 (hz 0 22 d0 rfl rfl)
  obtain ⟨a1, rfl, _, _, w1⟩ := open_int Tryd.underlying3 (hval 1 3 v1 rfl rfl) h1
  exact law_room ao0 cap0 l0 a1 w1 W c0


theorem room_said : Rows.JournalRoomSaid :=
  OpenClaim.holds_of_cond 3 Tryd.f3 rfl rfl rfl rfl rfl rfl rfl ⟨rfl, rfl, rfl, rfl, rfl⟩ rfl rfl rfl rfl rfl (by kernel_rfl) Tryd.func3 (by kernel_rfl)
    (of_decide_eq_true (by kernel_rfl)) (by unfold Func.isWrapper; rw [if_neg (of_decide_eq_false (by kernel_rfl))]; exact ⟨rfl, rfl⟩)
    (fun os started H enc _ F => by rw [OpenClaim.pre_eq_preRow]; exact room_lifted os started H enc F)
theorem room_plain (f : FuncId) (fn : Func) (hf : Tryd.pinned.checked.prog.funcNamed "cardcase/cardcaselaw24.JournalRoom" = some f) (hfn : Tryd.pinned.checked.prog.funcs[f]? = some fn) :
    false = Tryd.pinned.checked.prog.looks [] ∧ ∀ (j : Nat) t, fn.params[j]? = some t → Tryd.pinned.checked.prog.wantsStandIn t = false := by
  obtain rfl : f = 3 := Option.some.inj ((show Tryd.prog.funcNamed "cardcase/cardcaselaw24.JournalRoom" = some 3 by kernel_rfl).symm.trans hf) |>.symm
  obtain rfl : fn = Tryd.f3 := (Option.some.inj (Tryd.func3.symm.trans hfn)).symm
  refine ⟨by kernel_rfl, fun j t ht => ?_⟩
  have hall : (Tryd.f3.params.toList.all fun t => !Tryd.prog.wantsStandIn t) = true := by kernel_rfl
  have hm := List.all_eq_true.1 hall t (by simpa using Array.mem_of_getElem? ht)
  exact Bool.not_eq_true' _ ▸ hm
/-- THE CARD. -/
theorem room_card : Rows.JournalRoomCardSaid :=
  Claim7.holds_tied_plain_at .later [] _ _ _ _ room_said (fun _ h => by cases h) (by kernel_rfl) (fun _ h => by cases h) journalRoom_row_tie rfl ⟨rfl, rfl⟩ (by kernel_rfl) rfl room_plain (by kernel_rfl)

end Go.Proofs.YtaljgcdjkmpljaaDoor
