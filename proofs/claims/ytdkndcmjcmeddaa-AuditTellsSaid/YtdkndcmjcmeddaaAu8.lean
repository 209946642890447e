/- Mates. -/
import Derived.Test.YtdkndcmjcmeddaaAu7
namespace Go.Proofs.Ytdkndcmjcmeddaa
open Go.RowKit Lift
set_option linter.unusedSimpArgs false
set_option linter.unusedVariables false



abbrev Mt := Int × Int
def rMt : Rd Mt := ((Rd.int .i64)).pair ((Rd.int .i64))
def okMt (c : Mt) : Prop := (Lit.int .i64 c.1).wf = true ∧ (Lit.int .i64 c.2).wf = true
def cellsMt (c : Mt) : List Value := [.int .i64 c.1, .int .i64 c.2]
def encMt (c : Mt) : Value := .agg #[.int .i64 c.1, .int .i64 c.2]
theorem mt_get {S : Nat → Prop} {w : World} {ao : Option Addr} {l : List Mt} (h : SlAt rMt S w ao l) {k : Nat} {c : Mt} (hk : l[k]? = some c) :
    ∃ b off, ao = some ⟨b, off, none⟩ ∧ S b ∧ b < w.heap.size ∧ okMt c ∧ w.cell? ⟨b, off + k * 2, none⟩ = some (.int .i64 c.1) ∧ w.cell? ⟨b, off + k * 2 + 1, none⟩ = some (.int .i64 c.2) := by
  obtain ⟨b, off, cs, rfl, hs, hlt, ⟨c0, d0, rfl, ⟨rfl, h0⟩, ⟨rfl, h1⟩⟩, hc⟩ := h.get hk
  exact ⟨b, off, rfl, hs, hlt, ⟨h0, h1⟩, hc 0 _ rfl, hc 1 _ rfl⟩
theorem mt_rel (S : Nat → Prop) (w : World) (c : Mt) (h : okMt c) : rMt.rel S w (cellsMt c) c := by
  obtain ⟨h0, h1⟩ := h
  exact ⟨[_], _, rfl, ⟨rfl, h0⟩, ⟨rfl, h1⟩⟩
theorem mt_inv {S : Nat → Prop} {w : World} {cs : List Value} {c : Mt} (h : rMt.rel S w cs c) : cs = cellsMt c ∧ okMt c := by
  obtain ⟨c0, d0, rfl, ⟨rfl, h0⟩, ⟨rfl, h1⟩⟩ := h
  exact ⟨rfl, ⟨h0, h1⟩⟩
theorem mt_flat : Flat rMt := by
  intro S S' w w' cs c h
  obtain ⟨rfl, h2⟩ := mt_inv h
  exact mt_rel S' w' c h2
theorem mt_one : ∀ S w cs (c : Mt), rMt.rel S w cs c → ∀ u ∈ cs, u.oneCell' = true := by
  intro S w cs c h u hu
  obtain ⟨rfl, _⟩ := mt_inv h
  simp [cellsMt] at hu
  rcases hu with rfl | rfl <;> rfl
theorem mt_own {S : Nat → Prop} {w : World} {base : Nat} {e : TypeId} {g n cap : Nat} {l : List Mt} (h : Own rMt S w base e (.slice (some ⟨g, 0, none⟩) n cap) l) {k : Nat} {c : Mt} (hk : l[k]? = some c) : okMt c ∧ w.cell? ⟨g, k * 2, none⟩ = some (.int .i64 c.1) ∧ w.cell? ⟨g, k * 2 + 1, none⟩ = some (.int .i64 c.2) := by
  obtain ⟨cs, h1, hc⟩ := h.at hk
  obtain ⟨rfl, hok⟩ := mt_inv h1
  exact ⟨hok, hc 0 _ rfl, hc 1 _ rfl⟩
theorem mt_each {S : Nat → Prop} {w : World} {ao : Option Addr} {l : List Mt} (h : SlAt rMt S w ao l) : ∀ c ∈ l, okMt c := by
  intro c hc
  obtain ⟨k, hk⟩ := List.mem_iff_getElem?.1 hc
  obtain ⟨_, _, _, _, _, h1, _⟩ := mt_get h hk
  exact h1
theorem mt_ne {c d : Mt} (h : c ≠ d) : (¬ c.1 = d.1) ∨ (c.1 = d.1 ∧ ¬ c.2 = d.2) := by
  have hext : c.1 = d.1 → c.2 = d.2 → c = d := fun x0 x1 => Prod.ext x0 (x1)
  by_cases e0 : c.1 = d.1
  · by_cases e1 : c.2 = d.2
    · exact absurd (hext e0 e1) h
    · exact .inr ((⟨e0, e1⟩))
  · exact .inl (e0)
theorem mt_info : (Try.prog.info? 42).map (fun i => (i.zero, i.size, i.bytes)) = some (some (.agg #[.int .i64 0, .int .i64 0]), 2, 16) := by kernel_rfl

def mtOf (s : Sd) (x : Ent) : Mt := (x.1, ((mateL s.r x.1).getD zRec).1)
def okM (s : Sd) : Bool := decide (soundE s = 0) && s.e.all (fun x => (mateL s.r x.1).isSome) && s.r.all (fun c => !c.2.1 || oneB s.e c.2.2.2.2.1)
def matesL (s : Sd) : List Mt := if okM s then s.e.map (mtOf s) else []
def MatesPost (l : List Mt) (b : Bool) (w : World) (e : Ending) (w' : World) : Prop := ∃ v, e = .returned (.tuple #[v, .bool b]) ∧ Own rMt (fun _ => True) w' w.heap.size 42 v l ∧ Below w.heap.size w w'
theorem mt_info0 : ∃ i0, Try.prog.info? 42 = some i0 ∧ i0.zero = some (.agg #[.int .i64 0, .int .i64 0]) ∧ i0.size = 2 ∧ i0.bytes = 16 := info_parts mt_info
def MateLit (d : Rec) (b : Bool) (w : World) (e : Ending) (w' : World) : Prop := e = .returned (.tuple #[.agg #[.int .i64 d.1, .bool d.2.1, .int .i64 d.2.2.1, .string d.2.2.2.1, .int .i64 d.2.2.2.2.1, .int .i64 d.2.2.2.2.2.1, .string d.2.2.2.2.2.2.1, .int .i64 d.2.2.2.2.2.2.2.1, .string d.2.2.2.2.2.2.2.2], .bool b]) ∧ Below w.heap.size w w'
theorem mate_lit (s : Sd) (x : Ent) (w : World) (hs : SdOk w.heap.size w s) : Calls Try.prog 13 #[sdV s, .agg #[.int .i64 x.1, .int .i64 x.2.1, .int .i64 x.2.2.1, .string x.2.2.2]] w (MateLit ((mateL s.r x.1).getD zRec) (mateL s.r x.1).isSome w) := mate_any s x w hs
theorem mate_wf (l : List Rec) (h : ∀ c ∈ l, okRec c) (n : Int) : Wf ((mateL l n).getD zRec).1 := by
  cases h1 : mateL l n with
  | none => rfl
  | some d => exact (h d (List.mem_of_find?_eq_some h1)).1
set_option maxHeartbeats 8000000 in
set_option maxRecDepth 100000 in
theorem mates_any (s : Sd) (w : World) (hs : SdOk w.heap.size w s) : Calls Try.prog 5 #[sdV s] w (MatesPost (matesL s) (okM s) w) := by
  obtain ⟨W0, hW0⟩ : ∃ W0, w.alloc (.cells #[.slice s.ea s.e.length s.ec, .slice s.ga s.g.length s.gc, .slice s.pa s.p.length s.pc, .slice s.ra s.r.length s.rc] 26) = W0 := ⟨_, rfl⟩
  have hb0 : Below w.heap.size w W0 := by rw [← hW0]; exact (Below.refl _ _).alloc (Nat.le_refl _) _
  have hsz : W0.heap.size = w.heap.size + 1 := by rw [← hW0]; simp
  have hbx : SdBox W0 w.heap.size s := by rw [← hW0]; exact ⟨by simp [go_sem], by simp [go_sem], by simp [go_sem], by simp [go_sem]⟩
  have hs0 : SdOk W0.heap.size W0 s := (hs.old hb0).up (by omega)
  have HX := Lib.hid (show ∀ w', Below W0.heap.size W0 w' → w'.cell? ⟨w.heap.size, 0, none⟩ = some (.slice s.ea s.e.length s.ec) ∧ w'.cell? ⟨w.heap.size, 1, none⟩ = some (.slice s.ga s.g.length s.gc) ∧ w'.cell? ⟨w.heap.size, 2, none⟩ = some (.slice s.pa s.p.length s.pc) ∧ w'.cell? ⟨w.heap.size, 3, none⟩ = some (.slice s.ra s.r.length s.rc) from fun w' h => hbx.old h (by omega))
  have H1 := Lib.hid (show ∀ w', Below W0.heap.size W0 w' → Calls Try.prog 7 #[sdV s] w' (BelowPost (.int .i64 (soundE s)) w') from fun w' h => sound_any s w' ((hs0.old h).up h.size))
  have H2 := Lib.hid (show ∀ (w' : World) (x : Ent), Below W0.heap.size W0 w' → Calls Try.prog 13 #[sdV s, .agg #[.int .i64 x.1, .int .i64 x.2.1, .int .i64 x.2.2.1, .string x.2.2.2]] w' (MateLit ((mateL s.r x.1).getD zRec) (mateL s.r x.1).isSome w') from fun (w' : World) (x : Ent) h => mate_lit s x w' ((hs0.old h).up h.size))
  have H3 := Lib.hid (show ∀ w' n, Below W0.heap.size W0 w' → Calls Try.prog 14 #[.slice s.ea s.e.length s.ec, .int .i64 n] w' (BelowPost (.bool (oneB s.e n)) w') from fun w' n h => one_any s.ea s.ec s.e n w' ((hs0.old h).up h.size).e (by have := hs.el; omega))
  have HS := Lib.hid (show ∀ w', Below W0.heap.size W0 w' → SlAt rEnt (· < W0.heap.size) w' s.ea s.e from fun w' h => (hs0.old h).e)
  have HS2 := Lib.hid (show ∀ w', Below W0.heap.size W0 w' → SlAt rRec (· < W0.heap.size) w' s.ra s.r from fun w' h => (hs0.old h).r)
  have hel := hs.el
  have hrl := hs.rl
  have HW := Lib.hid (show ∀ n, Wf ((mateL s.r n).getD zRec).1 from mate_wf s.r (rec_each hs.r))
  have hb := Below.refl W0.heap.size W0
  obtain ⟨i0, hi, hz0, hz1, hz2⟩ := mt_info0
  have HI := Lib.hid hi; have HZ0 := Lib.hid hz0; have HZ1 := Lib.hid hz1; have HZ2 := Lib.hid hz2
  clear hi hz0 hz1 hz2
  obtain ⟨x0, x1, x2, x3⟩ := hbx
  have HB0 := Lib.hid hb0
  obtain ⟨L, hL⟩ : ∃ L, matesL s = L := ⟨_, rfl⟩
  obtain ⟨B, hB⟩ : ∃ B, okM s = B := ⟨_, rfl⟩
  obtain ⟨E, hE⟩ : ∃ E, soundE s = E := ⟨_, rfl⟩
  rw [hL, hB]
  rw [hE] at H1
  have HL := Lib.hid hL; have HB := Lib.hid hB; have HE := Lib.hid hE
  have HSZ := Lib.hid hsz
  clear hs hs0 hsz hb0 hL hB hE
  unfold sdV at *
  generalize s.ea = ea at *
  generalize s.ra = ra at *
  by_cases hE0 : E = 0
  · subst hE0
    go_enter Try.func5, Try.ntmps5
    go_wp2_with (first
      | ((with_reducible refine (H1.out _ hb).mono ?_); rintro e w3 ⟨rfl, hb3⟩; have hb := hb.trans (hb3.mono hb.size); obtain ⟨x0, x1, x2, x3⟩ := HX.out _ hb; clear hb3))
    go_loopw [4, 17] (fun v4 v17 wr => ∃ k : Nat, k ≤ s.e.length ∧ v17 = .int .i64 k ∧ Hid ((s.e.take k).all (fun x => (mateL s.r x.1).isSome) = true) ∧ Own rMt (fun _ => True) wr W0.heap.size 42 v4 ((s.e.take k).map (mtOf s)) ∧ Below W0.heap.size W0 wr) (fun _ v17 _ => s.e.length - (intOf v17).toNat)
    case atStart => exact ⟨0, by omega, rfl, Lib.hid rfl, Own.nil _ _ _ _ _, hb⟩
    case round =>
      obtain ⟨k, hk, rfl, hall, hO, hbr⟩ := hrel
      obtain ⟨x0, x1, x2, x3⟩ := HX.out _ hbr
      have hlt : w.heap.size < wr.heap.size := by have := HSZ.out; have := hbr.size; omega
      by_cases hkl : k < s.e.length
      · obtain ⟨c, hcl⟩ := some_at hkl
        obtain ⟨bb, oo, rfl, hs1, hb1, hok, y0, y1, y2, y3⟩ := ent_get (HS.out _ hbr) hcl
        have hkl2 : (k : Int) < (s.e.length : Int) := by omega
        have hlim : k ≤ 1000 := by omega
        have HTK := Lib.hid (take_at2 hcl)
        have g1 : Wf c.1 := hok.1
        have HM := Lib.hid (H2.out (wr.alloc (.cells #[.int .i64 c.1, .int .i64 c.2.1, .int .i64 c.2.2.1, .string c.2.2.2] 37)) c (hbr.alloc hbr.size _))
        have hO1 := hO.alloc (.cells #[.int .i64 c.1, .int .i64 c.2.1, .int .i64 c.2.2.1, .string c.2.2.2] 37)
        have hb2 := hbr.alloc hbr.size (.cells #[.int .i64 c.1, .int .i64 c.2.1, .int .i64 c.2.2.1, .string c.2.2.2] 37)
        have HY := Lib.hid (show ∀ w', Below (wr.alloc (.cells #[.int .i64 c.1, .int .i64 c.2.1, .int .i64 c.2.2.1, .string c.2.2.2] 37)).heap.size (wr.alloc (.cells #[.int .i64 c.1, .int .i64 c.2.1, .int .i64 c.2.2.1, .string c.2.2.2] 37)) w' → w'.cell? ⟨wr.heap.size, 0, none⟩ = some (.int .i64 c.1) from fun w' h => (h.cell (p := ⟨wr.heap.size, 0, none⟩) (by simp)).trans (by simp [go_sem]))
        obtain ⟨d, hd⟩ : ∃ d, (mateL s.r c.1).getD zRec = d := ⟨_, rfl⟩
        obtain ⟨f, hf⟩ : ∃ f, (mateL s.r c.1).isSome = f := ⟨_, rfl⟩
        rw [hd, hf] at HM
        have HD := Lib.hid hd
        have HF := Lib.hid hf
        clear hd hf hok
        cases f with
        | false =>
          go_wp2_with (first
            | ((with_reducible refine HM.out.mono ?_); rintro e w3 ⟨rfl, hb3⟩; have hb4 := hb2.trans (hb3.mono hb2.size); obtain ⟨x0, x1, x2, x3⟩ := HX.out _ hb4))
          go_ret2
          have hf : okM s = false := by
            unfold okM
            have : s.e.all (fun x => (mateL s.r x.1).isSome) = false := by
              rw [List.all_eq_false]
              exact ⟨c, List.mem_of_getElem? hcl, by simp [HF.out]⟩
            rw [this]; simp
          exact ⟨.slice none 0 0, by rw [← HB.out, hf]; rfl, by rw [← HL.out, matesL, hf]; exact Own.nil _ _ _ _ _, chain HB0.out (hb4.alloc hb4.size _)⟩
        | true =>
          have HWD := Lib.hid (show Wf d.1 by rw [← HD.out]; exact HW.out _)
          have hlen : ((s.e.take k).map (mtOf s)).length = k := by simp; omega
          go_wp2_with fail
          with_reducible refine HM.out.mono ?_
          rintro e w3 ⟨rfl, hb3⟩
          have hb4 := hb2.trans (hb3.mono hb2.size)
          obtain ⟨x0, x1, x2, x3⟩ := HX.out _ hb4
          have yy := HY.out _ hb3
          have hlt3 := hb3.size
          simp only [World.size_alloc] at hlt3
          have hlt4 : wr.heap.size < w3.heap.size := by omega
          have hO3 := hO1.below hb3
          go_wp2_with (first | (at_builtin; have hOO := hO3.alloc (.cells #[.int .i64 d.1, .bool d.2.1, .int .i64 d.2.2.1, .string d.2.2.2.1, .int .i64 d.2.2.2.2.1, .int .i64 d.2.2.2.2.2.1, .string d.2.2.2.2.2.2.1, .int .i64 d.2.2.2.2.2.2.2.1, .string d.2.2.2.2.2.2.2.2] 39); refine wpList_push rMt rfl _ _ 28 rfl W0.heap.size 42 i0 _ 16 Try.underlying28 HI.out HZ0.out HZ1.out HZ2.out rfl (by decide) (fun _ => True) _ ((s.e.take k).map (mtOf s)) rfl hOO (cellsMt (c.1, d.1)) (c.1, d.1) _ rfl (by simp) (mt_rel _ _ _ ⟨g1, HWD.out⟩) (by simp [cellsMt, Value.oneCell']) (by rw [hlen]; unfold maxLen; omega) (by rw [hlen]; omega) (by have := hb4.size; simp only [World.size_alloc]; omega) ?_; intro v2 w2 hO2 hK2 hw2))
          have hB2 := hOO.kbelow (B := W0.heap.size) (Nat.le_refl _) (by have := hb4.size; simp only [World.size_alloc]; omega) hK2
          have hm1 : ((s.e.take k).map (mtOf s)) ++ [(c.1, d.1)] = (s.e.take (k + 1)).map (mtOf s) := by rw [HTK.out, List.map_append]; simp [mtOf, HD.out]
          have ha1 : (s.e.take (k + 1)).all (fun x => (mateL s.r x.1).isSome) = true := by rw [HTK.out, List.all_append, hall.out]; simp [HF.out]
          rw [hm1] at hO2
          go_roundw
          case measure => simp [intOf]; omega
          case rel => exact ⟨k + 1, by omega, by go_num, Lib.hid ha1, hO2, (hb4.alloc hb4.size _).trans hB2⟩
      · obtain rfl : k = s.e.length := by omega
        rw [List.take_length] at hO
        have hall := Lib.hid (by have := hall.out; rwa [List.take_length] at this)
        go_wp2_with fail
        go_loopw [41] (fun v41 w2 => ∃ k2 : Nat, k2 ≤ s.r.length ∧ v41 = .int .i64 k2 ∧ Hid ((s.r.take k2).all (fun c => !c.2.1 || oneB s.e c.2.2.2.2.1) = true) ∧ Own rMt (fun _ => True) w2 W0.heap.size 42 u4 (s.e.map (mtOf s)) ∧ Below W0.heap.size W0 w2) (fun v41 _ => s.r.length - (intOf v41).toNat)
        case atStart => exact ⟨0, by omega, rfl, Lib.hid rfl, hO, hbr⟩
        case round =>
          obtain ⟨k2, hk2, rfl, hall2, hO, hbr⟩ := hrel
          obtain ⟨x0, x1, x2, x3⟩ := HX.out _ hbr
          have hlt : w.heap.size < wr.heap.size := by have := HSZ.out; have := hbr.size; omega
          by_cases hkl2 : k2 < s.r.length
          · obtain ⟨c, hcl⟩ := some_at hkl2
            obtain ⟨bb, oo, rfl, hs1, hb1, hok, y0, y1, y2, y3, y4, y5, y6, y7, y8⟩ := rec_get (HS2.out _ hbr) hcl
            have hkl3 : (k2 : Int) < (s.r.length : Int) := by omega
            have hlim : k2 ≤ 1000 := by omega
            have HTK := Lib.hid (take_at2 hcl)
            have HCL := Lib.hid hcl
            have g1 : Wf c.2.2.2.2.1 := hok.2.2.2.2.1
            obtain ⟨c0, c1, c2, c3, c4, c5, c6, c7, c8⟩ := c
            simp only at y0 y1 y2 y3 y4 y5 y6 y7 y8 g1
            clear hcl hok
            have HO1 := Lib.hid (hO.alloc (.cells #[.int .i64 c0, .bool c1, .int .i64 c2, .string c3, .int .i64 c4, .int .i64 c5, .string c6, .int .i64 c7, .string c8] 39))
            have hb2 := hbr.alloc hbr.size (.cells #[.int .i64 c0, .bool c1, .int .i64 c2, .string c3, .int .i64 c4, .int .i64 c5, .string c6, .int .i64 c7, .string c8] 39)
            cases c1 with
            | false =>
              go_wp2_with fail
              have ha1 : (s.r.take (k2 + 1)).all (fun c => !c.2.1 || oneB s.e c.2.2.2.2.1) = true := by rw [HTK.out, List.all_append, hall2.out]; simp
              go_roundw
              case measure => simp [intOf]; omega
              case rel => exact ⟨k2 + 1, by omega, by go_num, Lib.hid ha1, HO1.out, hb2⟩
            | true =>
              have HQ := Lib.hid (H3.out (wr.alloc (.cells #[.int .i64 c0, .bool true, .int .i64 c2, .string c3, .int .i64 c4, .int .i64 c5, .string c6, .int .i64 c7, .string c8] 39)) c4 hb2)
              obtain ⟨f, hf⟩ : ∃ f, oneB s.e c4 = f := ⟨_, rfl⟩
              rw [hf] at HQ
              have HF := Lib.hid hf
              clear hf
              cases f with
              | false =>
                go_wp2_with (first
                  | ((with_reducible refine HQ.out.mono ?_); rintro e w3 ⟨rfl, hb3⟩))
                go_ret2
                have hf : okM s = false := by
                  unfold okM
                  have : s.r.all (fun c => !c.2.1 || oneB s.e c.2.2.2.2.1) = false := by
                    rw [List.all_eq_false]
                    exact ⟨_, List.mem_of_getElem? HCL.out, by simp [HF.out]⟩
                  rw [this]; simp
                have hb4 := hb2.trans (hb3.mono hb2.size)
                exact ⟨.slice none 0 0, by rw [← HB.out, hf]; rfl, by rw [← HL.out, matesL, hf]; exact Own.nil _ _ _ _ _, chain HB0.out hb4⟩
              | true =>
                go_wp2_with (first
                  | ((with_reducible refine HQ.out.mono ?_); rintro e w3 ⟨rfl, hb3⟩))
                have ha1 : (s.r.take (k2 + 1)).all (fun c => !c.2.1 || oneB s.e c.2.2.2.2.1) = true := by rw [HTK.out, List.all_append, hall2.out]; simp [HF.out]
                go_roundw
                case measure => simp [intOf]; omega
                case rel => exact ⟨k2 + 1, by omega, by go_num, Lib.hid ha1, HO1.out.below hb3, hb2.trans (hb3.mono hb2.size)⟩
          · obtain rfl : k2 = s.r.length := by omega
            have hall2 := Lib.hid (by have := hall2.out; rwa [List.take_length] at this)
            go_wp2_with fail
            go_ret2
            have hf : okM s = true := by
              unfold okM
              rw [HE.out, hall.out, hall2.out]; rfl
            exact ⟨u4, by rw [← HB.out, hf]; rfl, by rw [← HL.out, matesL, hf]; exact hO.rebase HB0.out.size, chain HB0.out hbr⟩
  · go_enter Try.func5, Try.ntmps5
    go_wp2_with (first
      | ((with_reducible refine (H1.out _ hb).mono ?_); rintro e w3 ⟨rfl, hb3⟩; have hb := hb.trans (hb3.mono hb.size); obtain ⟨x0, x1, x2, x3⟩ := HX.out _ hb; clear hb3))
    go_ret2
    have hf : okM s = false := by unfold okM; rw [HE.out]; simp [hE0]
    exact ⟨.slice none 0 0, by rw [← HB.out, hf]; rfl, by rw [← HL.out, matesL, hf]; exact Own.nil _ _ _ _ _, chain HB0.out hb⟩
end Go.Proofs.Ytdkndcmjcmeddaa
