/- The document's Mates. -/
import Derived.Test.YtdkndcmjcmeddaaAu12
namespace Go.Proofs.Ytdkndcmjcmeddaa
open Go.RowKit Lift
set_option linter.unusedSimpArgs false
set_option linter.unusedVariables false
def hitsOf (n : Int) (l : List Rec) : List Mt := (l.filter (isMate n)).map (fun d => (d.2.2.2.2.1, d.1))
def flatR (es : List Ent) (rs : List Rec) : List Mt := es.flatMap (fun c => hitsOf c.1 rs)
def living (l : List Rec) : Nat := (l.filter (fun d => d.2.1)).length
def okR (s : Sd) : Bool := decide (refE s = 0) && (decide ((flatR s.e s.r).length = s.e.length) && decide ((flatR s.e s.r).length = living s.r))
def matesR (s : Sd) : List Mt := if okR s then flatR s.e s.r else []
theorem hits_len (n : Int) (l : List Rec) : (hitsOf n l).length ≤ l.length := by unfold hitsOf; rw [List.length_map]; exact List.length_filter_le _ _
theorem flat_len : ∀ (es : List Ent) (rs : List Rec), rs.length ≤ 1000 → (flatR es rs).length ≤ es.length * 1000
  | [], _, _ => by simp [flatR]
  | c :: r, rs, h => by
    have h1 := flat_len r rs h
    have h2 := hits_len c.1 rs
    unfold flatR at *
    rw [List.flatMap_cons, List.length_append, List.length_cons]
    omega
theorem flat_snoc (es : List Ent) (c : Ent) (rs : List Rec) : flatR (es ++ [c]) rs = flatR es rs ++ hitsOf c.1 rs := by unfold flatR; simp
theorem hits_snoc (n : Int) (rs : List Rec) (d : Rec) : hitsOf n (rs ++ [d]) = hitsOf n rs ++ if isMate n d then [(d.2.2.2.2.1, d.1)] else [] := by
  unfold hitsOf
  rw [List.filter_append, List.map_append]
  cases h : isMate n d <;> simp [h]
theorem living_snoc (rs : List Rec) (d : Rec) : living (rs ++ [d]) = living rs + if d.2.1 then 1 else 0 := by
  unfold living
  rw [List.filter_append, List.length_append]
  cases h : d.2.1 <;> simp [h]
theorem living_le (l : List Rec) : living l ≤ l.length := List.length_filter_le _ _
set_option maxHeartbeats 16000000 in
set_option maxRecDepth 100000 in
theorem mates_ref (s : Sd) (w : World) (hs : SdOk w.heap.size w s) : Calls Try.prog 6 #[sdV s] w (MatesPost (matesR s) (okR s) w) := by
  obtain ⟨W0, hW0⟩ : ∃ W0, w.alloc (.cells #[.slice s.ea s.e.length s.ec, .slice s.ga s.g.length s.gc, .slice s.pa s.p.length s.pc, .slice s.ra s.r.length s.rc] 26) = W0 := ⟨_, rfl⟩
  have hb0 : Below w.heap.size w W0 := by rw [← hW0]; exact (Below.refl _ _).alloc (Nat.le_refl _) _
  have hsz : W0.heap.size = w.heap.size + 1 := by rw [← hW0]; simp
  have hbx : SdBox W0 w.heap.size s := by rw [← hW0]; exact ⟨by simp [go_sem], by simp [go_sem], by simp [go_sem], by simp [go_sem]⟩
  have hs0 : SdOk W0.heap.size W0 s := (hs.old hb0).up (by omega)
  have HR0 := Lib.hid (show RBox w.heap.size s W0 from ⟨by omega, hs0, hbx⟩)
  have H1 := Lib.hid (show ∀ w', Below W0.heap.size W0 w' → Calls Try.prog 8 #[sdV s] w' (FromPost W0.heap.size W0 (.int .i64 (refE s))) from fun w' h => from_post h (sound_ref s w' ((hs0.old h).up h.size)))
  have hel := hs.el
  have hrl := hs.rl
  have HT0 := Lib.hid hb0
  obtain ⟨i0, hi, hz0, hz1, hz2⟩ := mt_info0
  have HI := Lib.hid hi; have HZ0 := Lib.hid hz0; have HZ1 := Lib.hid hz1; have HZ2 := Lib.hid hz2
  obtain ⟨E, hE⟩ : ∃ E, refE s = E := ⟨_, rfl⟩
  obtain ⟨L, hL⟩ : ∃ L, matesR s = L := ⟨_, rfl⟩
  obtain ⟨B, hB⟩ : ∃ B, okR s = B := ⟨_, rfl⟩
  rw [hL, hB]
  rw [hE] at H1
  have HE := Lib.hid hE; have HL := Lib.hid hL; have HB := Lib.hid hB
  clear hs hsz hb0 hs0 hbx hE hL hB hi hz0 hz1 hz2
  unfold sdV at *
  have hst := Below.refl W0.heap.size W0
  obtain ⟨x0, x1, x2, x3⟩ := HR0.out.bx
  have hlt := HR0.out.lt
  by_cases hE0 : E = 0
  · subst hE0
    go_enter Try.func6, Try.ntmps6
    go_wp2_with (first | ((with_reducible refine (H1.out _ hst).mono ?_); rintro e w3 ⟨rfl, hst⟩))
    go_loopw [4, 5] (fun va vi wr => ∃ k : Nat, k ≤ s.e.length ∧ vi = .int .i64 k ∧ Own rMt (fun _ => True) wr W0.heap.size 42 va (flatR (s.e.take k) s.r) ∧ Below W0.heap.size W0 wr) (fun _ vi _ => s.e.length - (intOf vi).toNat)
    case atStart => exact ⟨0, by omega, rfl, Own.nil _ _ _ _ _, hst⟩
    case round =>
      clear hst x0 x1 x2 x3 hlt
      obtain ⟨k, hk, rfl, hO, hbr⟩ := hrel
      have HRr := Lib.hid (HR0.out.next hbr)
      obtain ⟨x0, x1, x2, x3⟩ := HRr.out.bx
      have hlt := HRr.out.lt
      by_cases hkl : k < s.e.length
      · obtain ⟨c, hcl⟩ := some_at hkl
        have hkl2 : (k : Int) < (s.e.length : Int) := by omega
        have hlim : k ≤ 1000 := by omega
        have HCL := Lib.hid hcl
        have HTK := Lib.hid (take_at2 hcl)
        clear hcl
        go_wp2_with fail
        go_loopw [4, 6] (fun va vi wr => ∃ j : Nat, j ≤ s.r.length ∧ vi = .int .i64 j ∧ Own rMt (fun _ => True) wr W0.heap.size 42 va (flatR (s.e.take k) s.r ++ hitsOf c.1 (s.r.take j)) ∧ Below W0.heap.size W0 wr) (fun _ vi _ => s.r.length - (intOf vi).toNat)
        case atStart => exact ⟨0, by omega, rfl, by simpa [hitsOf] using hO, hbr⟩
        case round =>
          clear hbr HRr x0 x1 x2 x3 hlt hO
          obtain ⟨j, hj, rfl, hO, hbr⟩ := hrel
          have HRr := Lib.hid (HR0.out.next hbr)
          obtain ⟨x0, x1, x2, x3⟩ := HRr.out.bx
          have hlt := HRr.out.lt
          by_cases hjk : j < s.r.length
          · obtain ⟨d, hdl⟩ := some_at hjk
            obtain ⟨be, oe, hae, _, hbe, hoke, z0, z1, z2, z3⟩ := ent_get HRr.out.ok.e HCL.out
            obtain ⟨bb, oo, hao, hs1, hb1, hok, y0, y1, y2, y3, y4, y5, y6, y7, y8⟩ := rec_get HRr.out.ok.r hdl
            rw [hao] at x3
            rw [hae] at x0
            have hjk2 : (j : Int) < (s.r.length : Int) := by omega
            have hjlim : j ≤ 1000 := by omega
            have HTJ := Lib.hid (take_at2 hdl)
            obtain ⟨d0, d1, d2, d3, d4, d5, d6, d7, d8⟩ := d
            simp only at y0 y1 y2 y3 y4 y5 y6 y7 y8
            have g4 : Wf d4 := hok.2.2.2.2.1
            have g0 : Wf d0 := hok.1
            obtain ⟨n, hn⟩ : ∃ n, c.1 = n := ⟨_, rfl⟩
            rw [hn] at z0
            have HN := Lib.hid hn
            clear hn hok hoke hdl hao hae z1 z2 z3
            have hlen : (flatR (s.e.take k) s.r ++ hitsOf c.1 (s.r.take j)).length ≤ 1001000 := by
              have h1 := flat_len (s.e.take k) s.r hrl
              have h2 := hits_len c.1 (s.r.take j)
              rw [List.length_take] at h1 h2
              rw [List.length_append]; omega
            have HLEN := Lib.hid hlen
            clear hlen
            cases d1 with
            | false =>
              have HS := Lib.hid (show hitsOf c.1 (s.r.take (j + 1)) = hitsOf c.1 (s.r.take j) by rw [HTJ.out, hits_snoc]; simp [isMate])
              have HO1 := Lib.hid (hO.alloc (.cells #[.int .i64 d0, .bool false, .int .i64 d2, .string d3, .int .i64 d4, .int .i64 d5, .string d6, .int .i64 d7, .string d8] 39))
              have HB1 := Lib.hid (hbr.alloc hbr.size (.cells #[.int .i64 d0, .bool false, .int .i64 d2, .string d3, .int .i64 d4, .int .i64 d5, .string d6, .int .i64 d7, .string d8] 39))
              go_wp2_with fail
              have HG := Lib.hid (show Below wr.heap.size wr (wr.alloc (.cells #[.int .i64 d0, .bool false, .int .i64 d2, .string d3, .int .i64 d4, .int .i64 d5, .string d6, .int .i64 d7, .string d8] 39)).drew from ((Below.refl _ wr).alloc (Nat.le_refl _) _).drew)
              obtain ⟨W2, hW2, hO2, hbr2, q0, q1, q4, z0, x0, x1, x2, x3⟩ : ∃ W2, { (wr.alloc (.cells #[.int .i64 d0, .bool false, .int .i64 d2, .string d3, .int .i64 d4, .int .i64 d5, .string d6, .int .i64 d7, .string d8] 39)) with drawn := (wr.alloc (.cells #[.int .i64 d0, .bool false, .int .i64 d2, .string d3, .int .i64 d4, .int .i64 d5, .string d6, .int .i64 d7, .string d8] 39)).drawn + 1 } = W2 ∧ Own rMt (fun _ => True) W2 W0.heap.size 42 u4 (flatR (s.e.take k) s.r ++ hitsOf c.1 (s.r.take j)) ∧ Below W0.heap.size W0 W2 ∧ W2.cell? ⟨wr.heap.size, 0, none⟩ = some (.int .i64 d0) ∧ W2.cell? ⟨wr.heap.size, 1, none⟩ = some (.bool false) ∧ W2.cell? ⟨wr.heap.size, 4, none⟩ = some (.int .i64 d4) ∧ W2.cell? ⟨be, oe + k * 4, none⟩ = some (.int .i64 n) ∧ W2.cell? ⟨w.heap.size, 0, none⟩ = some (.slice (some ⟨be, oe, none⟩) s.e.length s.ec) ∧ W2.cell? ⟨w.heap.size, 1, none⟩ = some (.slice s.ga s.g.length s.gc) ∧ W2.cell? ⟨w.heap.size, 2, none⟩ = some (.slice s.pa s.p.length s.pc) ∧ W2.cell? ⟨w.heap.size, 3, none⟩ = some (.slice (some ⟨bb, oo, none⟩) s.r.length s.rc) :=
                ⟨_, rfl, HO1.out.below (Below.refl _ _).drew, HB1.out.drew, by show (World.alloc _ _).cell? _ = _; simp [go_sem], by show (World.alloc _ _).cell? _ = _; simp [go_sem], by show (World.alloc _ _).cell? _ = _; simp [go_sem], ((HG.out.cell (p := ⟨be, oe + k * 4, none⟩) hbe)).trans z0, (HG.out.cell (p := ⟨w.heap.size, 0, none⟩) hlt).trans x0, (HG.out.cell (p := ⟨w.heap.size, 1, none⟩) hlt).trans x1, (HG.out.cell (p := ⟨w.heap.size, 2, none⟩) hlt).trans x2, (HG.out.cell (p := ⟨w.heap.size, 3, none⟩) hlt).trans x3⟩
              (refine wp_region_still_lit (by kernel_rfl) (by kernel_rfl) ?_; rw [hW2]; clear hW2; refine StillH.out ?_; (repeat (refine still_h (fun K hK => ?_); go_simp; refine hK _ ?_; clear hK K)); refine still_end ?_)
              go_wp2_with fail
              go_roundw
              case measure => simp [intOf]; omega
              case rel => exact ⟨j + 1, by omega, by go_num, by rw [HS.out]; exact hO2, hbr2⟩
            | true =>
              have HO1 := Lib.hid (hO.alloc (.cells #[.int .i64 d0, .bool true, .int .i64 d2, .string d3, .int .i64 d4, .int .i64 d5, .string d6, .int .i64 d7, .string d8] 39))
              have HB1 := Lib.hid (hbr.alloc hbr.size (.cells #[.int .i64 d0, .bool true, .int .i64 d2, .string d3, .int .i64 d4, .int .i64 d5, .string d6, .int .i64 d7, .string d8] 39))
              by_cases h4 : d4 = n
              · have HS := Lib.hid (show hitsOf c.1 (s.r.take j) ++ [(d4, d0)] = hitsOf c.1 (s.r.take (j + 1)) by rw [HTJ.out, hits_snoc, HN.out]; simp [isMate, h4])
                have hd0 : decide (d4 = n) = true := by simpa using h4
                have hd1 : (d4 == n) = true := by simpa using h4
                clear h4
                go_wp2_with fail
                have HG := Lib.hid (show Below wr.heap.size wr (wr.alloc (.cells #[.int .i64 d0, .bool true, .int .i64 d2, .string d3, .int .i64 d4, .int .i64 d5, .string d6, .int .i64 d7, .string d8] 39)).drew from ((Below.refl _ wr).alloc (Nat.le_refl _) _).drew)
                obtain ⟨W2, hW2, hO2, hbr2, q0, q1, q4, z0, x0, x1, x2, x3⟩ : ∃ W2, { (wr.alloc (.cells #[.int .i64 d0, .bool true, .int .i64 d2, .string d3, .int .i64 d4, .int .i64 d5, .string d6, .int .i64 d7, .string d8] 39)) with drawn := (wr.alloc (.cells #[.int .i64 d0, .bool true, .int .i64 d2, .string d3, .int .i64 d4, .int .i64 d5, .string d6, .int .i64 d7, .string d8] 39)).drawn + 1 } = W2 ∧ Own rMt (fun _ => True) W2 W0.heap.size 42 u4 (flatR (s.e.take k) s.r ++ hitsOf c.1 (s.r.take j)) ∧ Below W0.heap.size W0 W2 ∧ W2.cell? ⟨wr.heap.size, 0, none⟩ = some (.int .i64 d0) ∧ W2.cell? ⟨wr.heap.size, 1, none⟩ = some (.bool true) ∧ W2.cell? ⟨wr.heap.size, 4, none⟩ = some (.int .i64 d4) ∧ W2.cell? ⟨be, oe + k * 4, none⟩ = some (.int .i64 n) ∧ W2.cell? ⟨w.heap.size, 0, none⟩ = some (.slice (some ⟨be, oe, none⟩) s.e.length s.ec) ∧ W2.cell? ⟨w.heap.size, 1, none⟩ = some (.slice s.ga s.g.length s.gc) ∧ W2.cell? ⟨w.heap.size, 2, none⟩ = some (.slice s.pa s.p.length s.pc) ∧ W2.cell? ⟨w.heap.size, 3, none⟩ = some (.slice (some ⟨bb, oo, none⟩) s.r.length s.rc) :=
                  ⟨_, rfl, HO1.out.below (Below.refl _ _).drew, HB1.out.drew, by show (World.alloc _ _).cell? _ = _; simp [go_sem], by show (World.alloc _ _).cell? _ = _; simp [go_sem], by show (World.alloc _ _).cell? _ = _; simp [go_sem], ((HG.out.cell (p := ⟨be, oe + k * 4, none⟩) hbe)).trans z0, (HG.out.cell (p := ⟨w.heap.size, 0, none⟩) hlt).trans x0, (HG.out.cell (p := ⟨w.heap.size, 1, none⟩) hlt).trans x1, (HG.out.cell (p := ⟨w.heap.size, 2, none⟩) hlt).trans x2, (HG.out.cell (p := ⟨w.heap.size, 3, none⟩) hlt).trans x3⟩
                have HS2 := Lib.hid hbr2.size
                (refine wp_region_still_lit (by kernel_rfl) (by kernel_rfl) ?_; rw [hW2]; clear hW2; refine StillH.out ?_; (repeat (refine still_h (fun K hK => ?_); go_simp; refine hK _ ?_; clear hK K)); refine still_end ?_)
                go_wp2_with (first | (at_builtin; refine wpList_push rMt rfl _ _ 28 rfl W0.heap.size 42 i0 _ 16 Try.underlying28 HI.out HZ0.out HZ1.out HZ2.out rfl (by decide) (fun _ => True) _ (flatR (s.e.take k) s.r ++ hitsOf c.1 (s.r.take j)) rfl hO2 (cellsMt (d4, d0)) (d4, d0) _ rfl (by simp) (mt_rel _ _ _ ⟨g4, g0⟩) (by simp [cellsMt, Value.oneCell']) (by have := HLEN.out; unfold maxLen; omega) (by have := HLEN.out; omega) HS2.out ?_; intro v2 w2 hO3 hK2 hw2))
                have hB2 := hO2.kbelow (B := W0.heap.size) (Nat.le_refl _) HS2.out hK2
                rw [List.append_assoc, HS.out] at hO3
                go_roundw
                case measure => simp [intOf]; omega
                case rel => exact ⟨j + 1, by omega, by go_num, hO3, hbr2.trans hB2⟩
              · have HS := Lib.hid (show hitsOf c.1 (s.r.take (j + 1)) = hitsOf c.1 (s.r.take j) by rw [HTJ.out, hits_snoc, HN.out]; simp [isMate, h4])
                have hd0 : decide (d4 = n) = false := by simpa using h4
                have hd1 : (d4 == n) = false := by simpa using h4
                clear h4
                go_wp2_with fail
                have HG := Lib.hid (show Below wr.heap.size wr (wr.alloc (.cells #[.int .i64 d0, .bool true, .int .i64 d2, .string d3, .int .i64 d4, .int .i64 d5, .string d6, .int .i64 d7, .string d8] 39)).drew from ((Below.refl _ wr).alloc (Nat.le_refl _) _).drew)
                obtain ⟨W2, hW2, hO2, hbr2, q0, q1, q4, z0, x0, x1, x2, x3⟩ : ∃ W2, { (wr.alloc (.cells #[.int .i64 d0, .bool true, .int .i64 d2, .string d3, .int .i64 d4, .int .i64 d5, .string d6, .int .i64 d7, .string d8] 39)) with drawn := (wr.alloc (.cells #[.int .i64 d0, .bool true, .int .i64 d2, .string d3, .int .i64 d4, .int .i64 d5, .string d6, .int .i64 d7, .string d8] 39)).drawn + 1 } = W2 ∧ Own rMt (fun _ => True) W2 W0.heap.size 42 u4 (flatR (s.e.take k) s.r ++ hitsOf c.1 (s.r.take j)) ∧ Below W0.heap.size W0 W2 ∧ W2.cell? ⟨wr.heap.size, 0, none⟩ = some (.int .i64 d0) ∧ W2.cell? ⟨wr.heap.size, 1, none⟩ = some (.bool true) ∧ W2.cell? ⟨wr.heap.size, 4, none⟩ = some (.int .i64 d4) ∧ W2.cell? ⟨be, oe + k * 4, none⟩ = some (.int .i64 n) ∧ W2.cell? ⟨w.heap.size, 0, none⟩ = some (.slice (some ⟨be, oe, none⟩) s.e.length s.ec) ∧ W2.cell? ⟨w.heap.size, 1, none⟩ = some (.slice s.ga s.g.length s.gc) ∧ W2.cell? ⟨w.heap.size, 2, none⟩ = some (.slice s.pa s.p.length s.pc) ∧ W2.cell? ⟨w.heap.size, 3, none⟩ = some (.slice (some ⟨bb, oo, none⟩) s.r.length s.rc) :=
                  ⟨_, rfl, HO1.out.below (Below.refl _ _).drew, HB1.out.drew, by show (World.alloc _ _).cell? _ = _; simp [go_sem], by show (World.alloc _ _).cell? _ = _; simp [go_sem], by show (World.alloc _ _).cell? _ = _; simp [go_sem], ((HG.out.cell (p := ⟨be, oe + k * 4, none⟩) hbe)).trans z0, (HG.out.cell (p := ⟨w.heap.size, 0, none⟩) hlt).trans x0, (HG.out.cell (p := ⟨w.heap.size, 1, none⟩) hlt).trans x1, (HG.out.cell (p := ⟨w.heap.size, 2, none⟩) hlt).trans x2, (HG.out.cell (p := ⟨w.heap.size, 3, none⟩) hlt).trans x3⟩
                (refine wp_region_still_lit (by kernel_rfl) (by kernel_rfl) ?_; rw [hW2]; clear hW2; refine StillH.out ?_; (repeat (refine still_h (fun K hK => ?_); go_simp; refine hK _ ?_; clear hK K)); refine still_end ?_)
                go_wp2_with fail
                go_roundw
                case measure => simp [intOf]; omega
                case rel => exact ⟨j + 1, by omega, by go_num, by rw [HS.out]; exact hO2, hbr2⟩
          · obtain rfl : j = s.r.length := by omega
            rw [List.take_length, ← flat_snoc, ← HTK.out] at hO
            go_wp2_with fail
            go_roundw
            case measure => simp [intOf]; omega
            case rel => exact ⟨k + 1, by omega, by go_num, hO, hbr⟩
      · obtain rfl : k = s.e.length := by omega
        rw [List.take_length] at hO
        obtain ⟨al, cl, e⟩ := hO.form
        have hnle : (flatR s.e s.r).length ≤ 1000000 := by have := flat_len s.e s.r hrl; omega
        obtain ⟨nl, hnl⟩ : ∃ nl, (flatR s.e s.r).length = nl := ⟨_, rfl⟩
        rw [hnl] at e hnle
        subst e
        have HNL := Lib.hid hnl
        clear hnl
        go_wp2_with fail
        go_loopw [8, 9] (fun va vi wr => ∃ k : Nat, k ≤ s.r.length ∧ vi = .int .i64 k ∧ va = .int .i64 (living (s.r.take k) : Nat) ∧ Own rMt (fun _ => True) wr W0.heap.size 42 (.slice al nl cl) (flatR s.e s.r) ∧ Below W0.heap.size W0 wr) (fun _ vi _ => s.r.length - (intOf vi).toNat)
        case atStart => exact ⟨0, by omega, rfl, by simp [living], hO, hbr⟩
        case round =>
          clear hbr HRr x0 x1 x2 x3 hlt hO
          obtain ⟨k, hk, rfl, rfl, hO, hbr⟩ := hrel
          have HRr := Lib.hid (HR0.out.next hbr)
          obtain ⟨x0, x1, x2, x3⟩ := HRr.out.bx
          have hlt := HRr.out.lt
          by_cases hkl : k < s.r.length
          · obtain ⟨c, hcl⟩ := some_at hkl
            obtain ⟨bb, oo, hao, hs1, hb1, hok, y0, y1, y2, y3, y4, y5, y6, y7, y8⟩ := rec_get HRr.out.ok.r hcl
            rw [hao] at x3
            have hkl2 : (k : Int) < (s.r.length : Int) := by omega
            have hll : living (s.r.take k) ≤ 1000 := by have := living_le (s.r.take k); rw [List.length_take] at this; omega
            have HT := Lib.hid (show living (s.r.take (k + 1)) = living (s.r.take k) + if c.2.1 then 1 else 0 by rw [take_at2 hcl, living_snoc])
            obtain ⟨lv, hlv⟩ : ∃ lv, c.2.1 = lv := ⟨_, rfl⟩
            rw [hlv] at y1 HT
            clear hlv hok hcl hao y0 y2 y3 y4 y5 y6 y7 y8
            generalize living (s.r.take k) = m at *
            cases lv with
            | true =>
              go_wp2_with fail
              go_roundw
              case measure => simp [intOf]; omega
              case rel => exact ⟨k + 1, by omega, by go_num, by rw [HT.out]; simp, hO, hbr⟩
            | false =>
              go_wp2_with fail
              go_roundw
              case measure => simp [intOf]; omega
              case rel => exact ⟨k + 1, by omega, by go_num, by rw [HT.out]; simp, hO, hbr⟩
          · obtain rfl : k = s.r.length := by omega
            rw [List.take_length]
            have HLV := Lib.hid (show ∃ m, living s.r = m from ⟨_, rfl⟩)
            obtain ⟨m, hm⟩ := HLV.out
            rw [hm]
            have HM := Lib.hid hm
            clear hm HLV
            by_cases h1 : (nl : Int) = (s.e.length : Int)
            · by_cases h2 : (nl : Int) = (m : Int)
              · have hf : okR s = true := by
                  unfold okR
                  rw [HE.out, HNL.out, HM.out]
                  simp; omega
                have HF := Lib.hid hf
                clear hf
                go_wp2_with fail
                go_ret2
                exact ⟨.slice al nl cl, by rw [← HB.out, HF.out]; rfl, by rw [← HL.out, matesR, HF.out]; exact hO.rebase HT0.out.size, chain HT0.out hbr⟩
              · have hf : okR s = false := by
                  unfold okR
                  rw [HE.out, HNL.out, HM.out]
                  simp; omega
                have HF := Lib.hid hf
                clear hf
                go_wp2_with fail
                go_ret2
                exact ⟨.slice none 0 0, by rw [← HB.out, HF.out]; rfl, by rw [← HL.out, matesR, HF.out]; exact Own.nil _ _ _ _ _, chain HT0.out hbr⟩
            · have hf : okR s = false := by
                unfold okR
                rw [HE.out, HNL.out, HM.out]
                simp; omega
              have HF := Lib.hid hf
              clear hf
              go_wp2_with fail
              go_ret2
              exact ⟨.slice none 0 0, by rw [← HB.out, HF.out]; rfl, by rw [← HL.out, matesR, HF.out]; exact Own.nil _ _ _ _ _, chain HT0.out hbr⟩
  · go_enter Try.func6, Try.ntmps6
    go_wp2_with (first | ((with_reducible refine (H1.out _ hst).mono ?_); rintro e w3 ⟨rfl, hst⟩))
    go_ret2
    have hf : okR s = false := by unfold okR; rw [HE.out]; simp [hE0]
    exact ⟨.slice none 0 0, by rw [← HB.out, hf]; rfl, by rw [← HL.out, matesR, hf]; exact Own.nil _ _ _ _ _, chain HT0.out hst⟩
end Go.Proofs.Ytdkndcmjcmeddaa
