/- Walks of the frames: the program's frame. -/
import Derived.Test.YtdakcphkaljghaaFb
namespace Go.Proofs.Ytdakcphkaljghaa
open Go.RowKit Go.AB
set_option linter.unusedSimpArgs false

set_option maxHeartbeats 2000000 in
set_option maxRecDepth 100000 in
theorem frame_calls (kind : UInt8) (v : Value) (body : List UInt8) (w : World) (hv : Bytes w v body) (hl : body.length ≤ 16777216) :
    Calls Try.prog 19 #[.int .u8 kind.toNat, v] w (NewB2 5 w (frameB kind body) 0) := by
  obtain ⟨ao, cap, rfl, _, _, _, _⟩ := hv.out
  have hmod : (body.length : Int) % 4294967296 = (body.length : Int) := by omega
  have HV := hid hv
  have hW0 : Wr 27 5 (w.alloc (.cells #[.slice none 0 0] 27)) w.heap.size none [] none 0 := ⟨heap_alloc_new w _, Row.nil _ _ _, by simp⟩
  have hc0 : Chg [] w (w.alloc (.cells #[.slice none 0 0] 27)) := (Chg.refl [] w).alloc _
  have hW0' := fun o => hW0.keep ((Chg.refl [] _).alloc o) (by simp) (by simp)
  have hk := kind.toNat_lt
  have hv1 : View ((w.alloc (.cells #[.slice none 0 0] 27)).alloc (.cells #[.int .u8 (kind.toNat : Nat)] 5)) 1 (.slice (some ⟨w.heap.size + 1, 0, none⟩) 1 1) 1 [.int .u8 (kind.toNat : Nat)] := by
    have := View.one (w.alloc (.cells #[.slice none 0 0] 27)) (.int .u8 (kind.toNat : Nat)) 5
    rwa [show (w.alloc (.cells #[.slice none 0 0] 27)).heap.size = w.heap.size + 1 from by simp] at this
  clear hv
  go_enter Try.func19, Try.ntmps19
  go_wp2_with (go_at_call 55; refine (put_u8 [kind.toNat] (by intro m hm; rw [List.mem_singleton.1 hm]; exact hk) _ _ _ _ _ _ _ (hW0' _) (by simp) hv1 (fun _ g hg => by simp [Value.ownBlock] at hg; subst hg; simp) (by simp)).mono ?_; rintro e w1 ⟨rfl, l1, r1, ao1, cap1, hW1, hc1, hf1, HL1⟩; refine halt (fun X hX => ?_))
  rw [hX.out]; clear hX
  have e1 : l1 = [kind] := by rw [HL1.out]; simp [fixedB]
  have hn1 : l1.length ≤ 1 := by rw [e1]; simp
  have HE1 := hid e1
  have hc1' : Chg [w.heap.size] w w1 := (hc0.nil.trans' ((Chg.refl _ _).alloc _)).trans (hc1) (fun x hx => by simp at hx; exact .inl (by simp [hx]))
  have hf1' : Fresh w none r1 := by
    intro g hg
    rcases hf1 g hg with h | h
    · simp at h
    · simp at h; exact .inr (by omega)
  clear HL1 e1 hc1 hf1 hW0 hW0'
  have hb1 : w.heap.size < w1.heap.size := blk_lt hW1.blk
  have hW1' := fun o => hW1.keep ((Chg.refl [] w1).alloc o) (by simp) (by simp)
  have hr1lt := hW1.row.lt
  go_wp2_with (go_at_call 56; refine (put_u32 [body.length] (by intro m hm; rw [List.mem_singleton.1 hm]; omega) _ _ _ _ _ _ _ (hW1' _) (by omega) (View.one _ _ _) (fun _ g hg => by simp [Value.ownBlock] at hg; subst hg; exact ⟨by omega, fun e => by have := hr1lt _ e; omega⟩) (by simp)).mono ?_; rintro e w2 ⟨rfl, l2, r2, ao2, cap2, hW2, hc2, hf2, HL2⟩; refine halt (fun X hX => ?_))
  rw [hX.out]; clear hX
  have e2 : l2 = headB kind body.length := by rw [HL2.out, HE1.out]; simp [headB]
  have hn2 : l2.length ≤ 5 := by rw [e2, headB_length]; omega
  have HE2 := hid e2
  have hc2' : Chg [w.heap.size] w w2 := (hc1'.trans' ((Chg.refl [w.heap.size] w1).alloc (.cells #[.int .u32 (body.length : Nat)] 43))).trans hc2 (fun x hx => by
    rcases List.mem_cons.1 hx with h | h
    · exact .inl (by simp [h])
    · exact .inr ((hf1' x (by simpa using h)).resolve_left (by simp)))
  have hf2' : Fresh w none r2 := by
    intro g hg
    rcases hf2 g hg with h | h
    · exact hf1' g h
    · simp at h; exact .inr (by omega)
  clear HL2 e2 hc2 hf2 HE1 hW1' hr1lt hc1' hf1'
  have hb2 : w.heap.size < w2.heap.size := blk_lt hW2.blk
  have hr2lt := hW2.row.lt
  clear hv1
  go_wp2_with fail
  obtain ⟨w3, hw3⟩ : ∃ w3, w3 = (w2.alloc (.cells #[.int .u8 97, .int .u8 98] 5)).alloc (.cells #[.slice (some ⟨w2.heap.size, 0, none⟩) 2 2] 27) := ⟨_, rfl⟩
  rw [← hw3]
  have hca : Chg [] w2 w3 := by rw [hw3]; exact ((Chg.refl [] w2).alloc _).alloc _
  have hsz : w3.heap.size = w2.heap.size + 2 := by rw [hw3]; simp
  have hF3 : Wr 27 5 w3 (w2.heap.size + 1) (some w2.heap.size) [97, 98] (some ⟨w2.heap.size, 0, none⟩) 2 := by
    refine ⟨?_, ⟨⟨rfl, .inr ⟨w2.heap.size, 2, #[.int .u8 97, .int .u8 98], rfl, Nat.zero_le _, ?_, Nat.le_refl _, by simp [maxLen], rfl, rfl⟩⟩, rfl⟩, by simp⟩
    · rw [hw3]
      have := heap_alloc_new (w2.alloc (.cells #[.int .u8 97, .int .u8 98] 5)) (.cells #[.slice (some ⟨w2.heap.size, 0, none⟩) 2 2] 27)
      simpa using this
    · rw [hw3]
      exact blk_alloc_old (blk_alloc_new w2 _) _
  clear hw3
  have hW3 := hW2.keep hca (by simp) (by simp)
  have HSZ := hid hsz
  clear hsz
  have hx1 := hW3.cell
  have hx2 := hF3.cell
  have hrow3 := hF3.row.keep (Chg.of_drewN [] w3 1) (by simp)
  have hrowH := hW3.row.keep (Chg.of_drewN [] w3 1) (by simp)
  simp only [List.length_cons, List.length_nil, Nat.zero_add] at hx2 hrow3
  go_region_law (first | (refine step_app rfl _ _ 25 rfl elem_u8 rfl hrow3 rfl hrowH.view (B_one _) (by unfold maxLen; omega) (by omega) (fun ao' cap' r' w4 hr4 hc4 hf4 => ?_); obtain ⟨hcell, hfree⟩ := hF3.put_cell (Chg.of_drewN [] w3 1) hc4; have hp := hF3.put (l' := [97, 98] ++ l2) (Chg.of_drewN [] w3 1) (by rw [List.map_append]; exact hr4) hc4 hf4))
  all_goals
    obtain ⟨p1, p2, p3⟩ := hp
    obtain ⟨w5, hw5⟩ : ∃ w5, w5 = w4.setCell ⟨w2.heap.size + 1, 0, none⟩ (.slice ao' (2 + l2.length) cap') := ⟨_, rfl⟩
    have p1' : Wr 27 5 w5 (w2.heap.size + 1) r' ([97, 98] ++ l2) ao' cap' := by rw [hw5]; exact p1
    have p2' : Chg ((w2.heap.size + 1) :: [w2.heap.size]) w3 w5 := by rw [hw5]; exact p2
    rw [← hw5]
    clear p1 p2 hw5 hcell hfree hr4 hc4 hf4
    have hC5 : Chg [] w w5 := ((hc2'.trans' hca.nil).trans p2' (fun x hx => by simp at hx; exact .inr (by omega))).mono (fun x hx => .inr (by simp at hx; omega))
    have hr2lt2 : ∀ g, r2 = some g → g ≠ w2.heap.size + 1 ∧ g ≠ w2.heap.size := fun g hg => by have := hr2lt g hg; omega
    have hH5 := hW3.keep p2' (by simp; omega) (fun g hg => by have := hr2lt2 g hg; simpa using this)
    have hb5 := HV.out.keep hC5 (by simp)
    have hr'W : Fresh w none r' := fun g hg => by
      rcases p3 g hg with h | h
      · exact .inr (by simp at h; omega)
      · exact .inr (by have := hca.size; omega)
    have y1 := hH5.cell
    have hl5 : ([97, 98] ++ l2).length ≤ 7 := by simp; omega
    have hs1 := sum_calls 4294967295 (by omega) _ l2 w5 hH5.row.view (by omega)
    rw [show ((4294967295 : Nat) : Int) = 4294967295 from rfl] at hs1
    have hs2 := sum_calls (crcSum 4294967295 l2) (crcSum_lt l2 (by omega)) _ body w5 hb5 (by omega)
    have hxl := crcSum_lt body (crcSum_lt l2 (c := 4294967295) (by omega))
    have hsm : crcSum (crcSum 4294967295 l2) body ^^^ 4294967295 = sumB (l2 ++ body) := by unfold sumB; rw [crcSum_append]
    have hxb := xorBegin (crcSum (crcSum 4294967295 l2) body) hxl
    rw [hsm] at hxb
    obtain ⟨c1, hc1⟩ : ∃ c, crcSum 4294967295 l2 = c := ⟨_, rfl⟩
    rw [hc1] at hs1 hs2 hxb hxl
    obtain ⟨c2, hc2⟩ : ∃ c, crcSum c1 body = c := ⟨_, rfl⟩
    rw [hc2] at hs2 hxb hxl
    have hsl := sumB_lt (l2 ++ body)
    obtain ⟨sm, hsmE⟩ : ∃ s, sumB (l2 ++ body) = s := ⟨_, rfl⟩
    rw [hsmE] at hxb hsl
    have HS1 := hid hs1
    have HS2 := hid hs2
    have HSM := hid hsmE
    clear hs1 hs2 hsm hsmE hc1 hc2 hxl hx1 hx2 hrow3 hrowH
    have p1a := fun o => p1'.keep ((Chg.refl [] w5).alloc o) (by simp) (by simp)
    have hbf : w2.heap.size + 1 < w5.heap.size := blk_lt p1'.blk
    have hrf := p1'.row.lt
    go_wp2_with (first
      | (go_at_call 57; (with_reducible refine HS2.out.mono ?_); rintro e w' ⟨rfl, rfl⟩)
      | (go_at_call 57; (with_reducible refine HS1.out.mono ?_); rintro e w' ⟨rfl, rfl⟩)
      | (go_at_call 56; refine (put_u32 [sm] (by intro m hm; rw [List.mem_singleton.1 hm]; exact hsl) _ _ _ _ _ _ _ (p1a _) (by omega) (View.one _ _ _) (fun _ g hg => by simp [Value.ownBlock] at hg; subst hg; exact ⟨by omega, fun e => by have := hrf _ e; omega⟩) (by simp)).mono ?_; rintro e w6 ⟨rfl, l6, r6, ao6, cap6, hW6, hc6, hf6, HL6⟩; refine halt (fun X hX => ?_)))
    rw [hX.out]; clear hX
    have hca5 := (Chg.refl [] w5).alloc (.cells #[.int .u32 (sm : Nat)] 43)
    have hC6 : Chg [] w w6 := (hC5.trans' hca5).trans hc6 (fun x hx => by
      rcases List.mem_cons.1 hx with h | h
      · exact .inr (by omega)
      · exact .inr ((hr'W x (by simpa using h)).resolve_left (by simp)))
    have hf6W : Fresh w none r6 := fun g hg => by
      rcases hf6 g hg with h | h
      · exact hr'W g h
      · have := hC5.size; simp at h; exact .inr (by omega)
    have hb6 := HV.out.keep hC6 (by simp)
    have y6 := hW6.cell
    have hl6 : l6.length ≤ 11 := by rw [HL6.out, List.length_append]; simp [fixedB]; omega
    have e6 : l6 = [97, 98] ++ l2 ++ fixedB 4 sm := by rw [HL6.out]; simp
    have HE6 := hid e6
    clear HL6 e6 hc6 hf6 p1a hrf hb5 hH5 y1
    go_wp2_with (at_builtin; refine wpList_app rfl _ _ 25 rfl elem_u8 rfl (hW6.row) rfl (hb6) (B_one _) (by unfold maxLen; omega) (by omega) (fun ao7 cap7 r7 w7 hr7 hc7 hf7 hnil7 => halt (fun X hX => ?_)))
    rw [hX.out]; clear hX
    clear hnil7
    obtain ⟨hcell, hfree⟩ := hW6.put_cell (Chg.refl [] w6) hc7
    obtain ⟨q1, q2, q3⟩ := hW6.put (l' := l6 ++ body) (Chg.refl [] w6) (by rw [List.map_append]; exact hr7) hc7 hf7
    have hrow8 := q1.row
    have HQ1 := hid hrow8
    clear hrow8
    go_wp2
    go_ret2
    refine ⟨l6 ++ body, ao7, cap7, r7, ?_, HQ1.out, ?_, ?_, hid ?_⟩
    · rw [List.length_append]; rfl
    · exact fun g hg => (q3 g hg).elim (fun h => hf6W g h) (fun h => .inr (by have := hC6.size; omega))
    · exact hC6.trans q2 (fun x hx => by
        rcases List.mem_cons.1 hx with h | h
        · exact .inr (by omega)
        · exact .inr ((hf6W x (by simpa using h)).resolve_left (by simp)))
    · rw [HE6.out, ← HSM.out, HE2.out]
      simp [frameB]
end Go.Proofs.Ytdakcphkaljghaa
