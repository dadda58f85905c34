/- Walks of the laws' own: the opening of bytes, twice, by the document. -/
import Derived.Test.YtdakcphkaljghaaKd
import Derived.Test.YtdakcphkaljghaaFe
namespace Go.Proofs.Ytdakcphkaljghaa
open Go.RowKit Go.AB
set_option linter.unusedSimpArgs false
set_option linter.unusedVariables false

theorem View.keepLt {w w' : World} {k : Nat} {v : Value} {n : Nat} {xs : List Value} {S : List Nat} (h : View w k v n xs) (hc : Chg S w w') (hS : ∀ g, g < w.heap.size → v.ownBlock = some g → g ∉ S) : View w' k v n xs := by
  obtain ⟨h1, h2, ao, cap, hv, h3, h4, h5, h6⟩ := h
  refine ⟨h1, h2, ao, cap, hv, h3, h4, h5, fun hn => ?_⟩
  obtain ⟨b, off, hb, hcell⟩ := h6 hn
  refine ⟨b, off, hb, fun j hj => hc.cell (hcell j hj) (hS b (World.block_lt_of_cell? w _ (hcell j hj)) ?_)⟩
  rw [hv, hb]; rfl
theorem View.keepNe {w w' : World} {k : Nat} {v : Value} {n : Nat} {xs : List Value} {S : List Nat} (h : View w k v n xs) (hc : Chg S w w') (hS : 0 < n * k → ∀ g, v.ownBlock = some g → g ∉ S) : View w' k v n xs := by
  obtain ⟨h1, h2, ao, cap, hv, h3, h4, h5, h6⟩ := h
  refine ⟨h1, h2, ao, cap, hv, h3, h4, h5, fun hn => ?_⟩
  obtain ⟨b, off, hb, hcell⟩ := h6 hn
  refine ⟨b, off, hb, fun j hj => hc.cell (hcell j hj) (hS hn b ?_)⟩
  rw [hv, hb]; rfl
theorem Grown.trans {w0 w wA w' : World} {b : Nat} {es0 es es' : List Ent} {rl0 rw0 rl rw rl' rw' : Option Nat} (h : Grown w0 b es0 rl0 rw0 w es rl rw) (hc : Chg [] w wA) (k : Grown wA b es rl rw w' es' rl' rw') : Grown w0 b es0 rl0 rw0 w' es' rl' rw' := by
  have h1 := h.step hc
  have hs := h1.chg.size
  refine ⟨h1.chg.trans k.chg h1.mem, h1.fl.trans hs k.fl, h1.fw.trans hs k.fw, fun e he => ?_⟩
  rcases k.es e he with h2 | ⟨h2, h3⟩
  · exact h.es e h2
  · exact .inr ⟨fun g hg => Nat.le_trans hs (h2 g hg), fun g hg => Nat.le_trans hs (h3 g hg)⟩
/-- Behind the opening. -/
def OpensG (w0 : World) (b : Nat) (es0 : List Ent) (rl0 rw0 : Option Nat) (es : List Ent) (e : Ending) (w' : World) : Prop :=
  e = .returned (.bool true) ∧ ∃ es' rl' rw' al' aw' cl' cw', Bk w' b es' rl' rw' al' aw' cl' cw' ∧ Grown w0 b es0 rl0 rw0 w' es' rl' rw' ∧ es'.length = es.length + 2 ∧ (∀ e, e ∈ es' → e ∈ es ∨ e.l.length ≤ 16777216)

theorem openB_len (l : List UInt8) : (openB l).2.1.length ≤ l.length := by
  unfold openB
  repeat' split
  all_goals simp

set_option maxHeartbeats 8000000 in
set_option maxRecDepth 100000 in
theorem opens_calls {w0 w : World} {b : Nat} {es0 es : List Ent} {rl0 rw0 rl rw : Option Nat} {al aw : Option Addr} {cl cw : Nat} (hG : Grown w0 b es0 rl0 rw0 w es rl rw) (h : Bk w b es rl rw al aw cl cw) (hn : es.length ≤ 8388608)
    (vr : Value) (raw : List UInt8) (hv : Bytes w vr raw) (hva : 0 < raw.length → ∀ g, vr.ownBlock = some g → g ∉ b :: (rl.toList ++ rw.toList)) (hl : raw.length ≤ 2097152) :
    Calls Try.prog 25 #[vr, .pointer (some ⟨b, 0, none⟩)] w (OpensG w0 b es0 rl0 rw0 es) := by
  obtain ⟨aob, capb, rfl⟩ : ∃ ao cap, vr = .slice ao raw.length cap := by obtain ⟨ao, cap, h, _⟩ := hv.out; exact ⟨ao, cap, h⟩
  have hr0 : Row w 5 1 (.slice none 0 0) none 0 [] := Row.nil _ _ _
  have HV := hid hv
  have HG := hid hG
  have HB := hid h
  have HVA := hid hva
  clear hv hG h hva
  go_enter Try.func25, Try.ntmps25
  go_wp2_with (at_builtin; refine wpList_app rfl _ _ 25 rfl elem_u8 rfl (hr0) rfl (HV.out) (B_one _) (by unfold maxLen; omega) (by omega) (fun ao' cap' r' w2 hr2 hc2 hf2 hnil2 => halt (fun X hX => ?_)))
  rw [hX.out]; clear hX
  clear hnil2 hr0
  simp only [Nat.zero_add, List.nil_append] at hr2
  have hcl2 : Chg [] w w2 := hc2
  have hf2' := hf2
  have hra := fun o => hr2.keep ((Chg.refl [] w2).alloc o) (by simp)
  clear hc2 hf2
  go_wp2_with (at_builtin; refine wpList_app rfl _ _ 25 rfl elem_u8 rfl (hra _) rfl (View.one _ _ _) (by simp [Value.oneCell']) (by unfold maxLen; omega) (by omega) (fun ao3 cap3 r3 w3 hr3 hc3 hf3 hnil3 => halt (fun X hX => ?_)))
  rw [hX.out]; clear hX
  clear hnil3 hra
  have hF : Row w3 5 1 (.slice ao3 (raw ++ [90]).length cap3) r3 (raw ++ [90]).length ((raw ++ [90]).map B) := by
    rw [List.length_append, List.map_append]; exact hr3
  have hfW : Fresh w none r' := hf2'
  have hc3W : Chg [] w w3 := own_step hcl2 hfW ((Chg.refl [] w2).alloc _) hc3
  have hf3W : Fresh w none r3 := fresh_step hcl2 hfW ((Chg.refl [] w2).alloc _) hf3
  clear hr3 hc3 hf3 hr2
  have hcap : raw.length + 1 ≤ cap3 := by
    obtain ⟨_, _, _, _, e, h, _⟩ := hF.view
    simp only [Value.slice.injEq, true_and] at e
    obtain ⟨rfl, rfl⟩ := e
    simp at h; omega
  have hcap1 : (raw.length : Int) ≤ (cap3 : Int) := by omega
  have hraw3 := View.keepLt HV.out hc3W (fun g _ _ => by simp)
  have HQ := hid (q_open_calls (.slice aob raw.length capb) raw w3 hraw3 (by omega))
  have hLl := openB_len raw
  obtain ⟨K, L0, C, hK⟩ : ∃ K L0 C, openB raw = (K, L0, C) := ⟨_, _, _, rfl⟩
  rw [hK] at HQ hLl
  simp only at hLl
  have HK := hid hK
  clear hK hraw3
  go_wp2_with (go_at_call 60; refine HQ.out.mono ?_; rintro e wA ⟨lB, aoB, capB, rB, rfl, hrB, hfB, hcB, HLB⟩; refine halt (fun X hX => ?_))
  rw [hX.out]; clear hX
  obtain rfl : lB = L0 := HLB.out
  have hcA : Chg [] w wA := hc3W.trans' hcB
  have hFA := hF.keep hcB (by simp)
  have hBA := HB.out.keep hcA (by simp)
  have HRB := hid hrB
  have HFA := hid hFA
  have hsA := hcA.size
  have hold : ∀ g, g ∈ b :: (rl.toList ++ rw.toList) → g < w.heap.size := fun g hg => HB.out.lt g (by
    simp only [List.mem_cons, List.mem_append, Option.mem_toList] at hg
    rcases hg with h1 | h1 | h1
    · exact bk_mem.2 (.inl h1)
    · exact bk_mem.2 (.inr (.inl h1))
    · exact bk_mem.2 (.inr (.inr (.inl h1))))
  have hF0 : ∀ g, r3 = some g → g ∉ b :: (rl.toList ++ rw.toList) := fun g hg hm => by have := hold g hm; have := (hf3W g hg).resolve_left (by simp); omega
  have hB0 : ∀ g, rB = some g → g ∉ b :: (rl.toList ++ rw.toList) := fun g hg hm => by have := hold g hm; have := (hfB g hg).resolve_left (by simp); have := hc3W.size; omega
  have hpreA : ∀ wr, Chg (b :: (rl.toList ++ rw.toList)) wA wr → Bytes wr (.slice ao3 raw.length cap3) raw := fun wr hc => by
    have h1 := ((HFA.out.keep hc hF0).view).pre (m := raw.length) (by simp)
    rw [List.map_append, List.take_left' (by simp)] at h1
    exact h1
  have hrawA : ∀ wr, Chg (b :: (rl.toList ++ rw.toList)) wA wr → Bytes wr (.slice aob raw.length capb) raw := fun wr hc => (View.keepNe HV.out (hcA.nil.trans' hc) (fun h0 => HVA.out (by omega)))
  have HPA := hid hpreA
  have HRA := hid hrawA
  have HF0 := hid hF0
  have HB0 := hid hB0
  have HOLD := hid hold
  clear hF hFA hrB hpreA hrawA hcl2 hf2' hfW HQ hF0 hB0 hold
  go_wp2_with fail
  go_loopw [9] (fun i wr => ∃ (k : Nat) (es' : List Ent) (rl' rw' : Option Nat) (al' aw' : Option Addr) (cl' cw' : Nat), k ≤ 2 ∧ i = .int .i64 k ∧ Bk wr b es' rl' rw' al' aw' cl' cw' ∧ Grown wA b es rl rw wr es' rl' rw' ∧ Hid (es'.length = es.length + k) ∧ Hid (∀ e, e ∈ es' → e ∈ es ∨ e.l.length ≤ 16777216)) (fun i _ => 2 - (intOf i).toNat)
  case atStart => exact ⟨0, es, rl, rw, al, aw, cl, cw, by omega, rfl, hBA, Grown.refl _ _ _ _ _, hid rfl, hid (fun e he => .inl he)⟩
  case round =>
    obtain ⟨k, es', rl', rw', al', aw', cl', cw', hk, rfl, hBk, hGr, HEL, HEB⟩ := hrel
    by_cases hk2 : k < 2
    · have hpre := HPA.out wr hGr.chg
      have HO := hid (open_calls (.slice ao3 raw.length cap3) raw wr hpre (by omega))
      rw [HK.out] at HO
      have HBK := hid hBk
      have HGR := hid hGr
      clear hpre hBk hGr
      go_wp2_with (go_at_call 20; refine HO.out.mono ?_; rintro e w5 ⟨l1, ao1, cap1, r1, rfl, hr1, hf1, hc1, HL1⟩; refine halt (fun X hX => ?_))
      rw [hX.out]; clear hX
      obtain rfl : lB = l1 := HL1.out.symm
      have hG5 := HGR.out.step hc1
      have hB5 := HBK.out.keep hc1 (by simp)
      have hrB5 := HRB.out.keep hG5.chg HB0.out
      have hcv1 := run_conv_view Try.underlying25 Try.underlying5 Try.underlying9 hr1.view w5 rfl
      have hcv2 := run_conv_view Try.underlying25 Try.underlying5 Try.underlying9 hrB5.view w5 rfl
      have HKP := hid (keeps_grown (w0 := wA) hG5 hB5 (by rw [HEL.out]; omega) rfl hr1
        (fun g hg hm => by have h1 := (hf1 g hg).resolve_left (by simp); have h2 := HBK.out.lt g hm; omega)
        (fun g hg => by have h1 := (hf1 g hg).resolve_left (by simp); have h2 := HGR.out.chg.size; omega)
        hrB5.view (fun g hg hm => by
          have h1 : rB = some g := by rw [← HRB.out.blk]; exact hg
          rcases hG5.mem g hm with h2 | h2
          · exact HB0.out g h1 h2
          · have h3 := HRB.out.lt g h1
            omega) (by omega))
      clear hG5 hB5 hrB5 HO hr1
      go_wp2_with (go_at_call 15; refine HKP.out.mono ?_; rintro e w6 ⟨rfl, es2, rl2, rw2, al2, aw2, cl2, cw2, hB6, hG6, hl6, hb6, hc6⟩)
      go_roundw
      case rel => exact ⟨k + 1, es2, rl2, rw2, al2, aw2, cl2, cw2, by omega, by go_num, hB6, hG6, hid (by rw [hl6, HEL.out]; omega), hid (fun e he => (hb6 e he).elim (fun h1 => HEB.out e h1) (fun h1 => .inr (by rw [h1]; omega)))⟩
      case measure => simp [intOf]; omega
    · obtain rfl : k = 2 := by omega
      have hpre := HPA.out wr hGr.chg
      have hrw2 := HRA.out wr hGr.chg
      have v1 := fun n => run_conv_view (P := Try.prog) Try.underlying25 Try.underlying5 Try.underlying9 (View.keepLt hpre (Chg.of_drewN [] wr n) (fun _ _ _ => by simp)) (wr.drewN n) rfl
      have v2 := fun n => run_conv_view (P := Try.prog) Try.underlying25 Try.underlying5 Try.underlying9 (View.keepLt hrw2 (Chg.of_drewN [] wr n) (fun _ _ _ => by simp)) (wr.drewN n) rfl
      have hFr := HFA.out.keep hGr.chg HF0.out
      obtain ⟨g, rfl, rfl, x1, _⟩ := hFr.at (k := raw.length) (by simp)
      have e1 : (raw ++ [90])[raw.length]'(by simp) = 90 := by simp
      rw [e1] at x1
      have z2 : (raw.length : Int) < ((raw.length + 1 : Nat) : Int) := by omega
      have z3 : (raw.length : Int) < (raw.length : Int) + 1 := by omega
      have HBK := hid hBk
      have HGR := hid hGr
      clear e1 hFr hpre hrw2 hBk hGr
      go_wp2_with fail
      go_quiet (fail)
      go_wp2
      first
        | exact ⟨rfl, es', rl', rw', al', aw', cl', cw', HBK.out.keep (Chg.of_drewN [] wr _) (by simp), HG.out.trans hcA (HGR.out.step (Chg.of_drewN [] wr _)), HEL.out, HEB.out⟩
        | (go_ret; exact ⟨rfl, es', rl', rw', al', aw', cl', cw', HBK.out.keep (Chg.of_drewN [] wr _) (by simp), HG.out.trans hcA (HGR.out.step (Chg.of_drewN [] wr _)), HEL.out, HEB.out⟩)
end Go.Proofs.Ytdakcphkaljghaa
