/- Walks of the lexer's laws: lists of tokens are written full of marks, grown, and looked at. -/
import Derived.Test.YtppijmpdoejdmaaCf
import Derived.Test.YtppijmpdoejdmaaMk
namespace Go.Proofs.Ytppijmpdoejdmaa
open Go.RowKit Go.AB
set_option linter.unusedSimpArgs false
set_option linter.unusedVariables false
set_option linter.unusedSectionVars false

/-- The mark of list i at place p, as a token's cells. -/
def MT (i : Nat) (p : Int) : List Value := [.int .i64 (-1 - (i : Int)), .string ⟨#[]⟩, .int .i64 p, .int .i64 0, .int .i64 0]
theorem MT_len (i : Nat) (p : Int) : (MT i p).length = 5 := rfl
theorem info_toks : (Try.prog.info? 23).map (fun i => (i.zero, i.size, i.bytes)) = some (some (.slice none 0 0), 1, 24) := by kernel_rfl
theorem elem_toks : ElemOk Try.prog 33 23 1 24 := .of Try.underlying33 info_toks rfl (by decide)

/-- A slice that is read, one of its cells. -/
theorem view_at {w : World} {k : Nat} {ao : Option Addr} {n m cap : Nat} {xs : List Value} (h : View w k (.slice ao m cap) n xs) (hn : 0 < n * k) : ∃ b off, ao = some ⟨b, off, none⟩ ∧ ∀ p, p < n * k → w.cell? ⟨b, off + p, none⟩ = some (xs.getD p undef) := by
  obtain ⟨_, _, ao', cap', hv, _, _, _, hc⟩ := h
  simp only [Value.slice.injEq] at hv
  obtain ⟨rfl, rfl, rfl⟩ := hv
  exact hc hn

/-- Five cells written over. -/
theorem set5 (A C : List Value) (b0 b1 b2 b3 b4 u0 u1 u2 u3 u4 : Value) {p : Nat} (hp : A.length = p) : (((((A ++ b0 :: b1 :: b2 :: b3 :: b4 :: C).set p u0).set (p + 1) u1).set (p + 2) u2).set (p + 3) u3).set (p + 4) u4 = A ++ [u0, u1, u2, u3, u4] ++ C := by
  subst hp
  rw [List.set_append_right _ _ (Nat.le_refl _), List.set_append_right _ _ (by omega), List.set_append_right _ _ (by omega), List.set_append_right _ _ (by omega), List.set_append_right _ _ (by omega)]
  simp [Nat.add_sub_cancel_left]
theorem drop5 {l : List Value} {p n : Nat} (hl : l.length = n * 5) (hp : p < n) : ∃ b0 b1 b2 b3 b4, l.drop (p * 5) = b0 :: b1 :: b2 :: b3 :: b4 :: l.drop ((p + 1) * 5) := by
  have h : p * 5 + 5 ≤ l.length := by omega
  refine ⟨l[p * 5], l[p * 5 + 1], l[p * 5 + 2], l[p * 5 + 3], l[p * 5 + 4], ?_⟩
  rw [List.drop_eq_getElem_cons (by omega), List.drop_eq_getElem_cons (by omega), List.drop_eq_getElem_cons (by omega), List.drop_eq_getElem_cons (by omega), List.drop_eq_getElem_cons (by omega), show (p + 1) * 5 = p * 5 + 1 + 1 + 1 + 1 + 1 from by omega]

/-- One element of an owned row of tokens is written over by its mark. -/
theorem mark_step {w : World} {e n q i : Nat} {v : Value} {g : Nat} {xs : List Value} (hx : xs.length = n * 5) (h : Row w e 5 v (some g) n (fullM MT i q ++ xs.drop (q * 5))) (hq : q < n) :
    Row (((((w.setCell ⟨g, q * 5, none⟩ (.int .i64 (-1 - (i : Int)))).setCell ⟨g, q * 5 + 1, none⟩ (.string ⟨#[]⟩)).setCell ⟨g, q * 5 + 2, none⟩ (.int .i64 (q : Int))).setCell ⟨g, q * 5 + 3, none⟩ (.int .i64 0)).setCell ⟨g, q * 5 + 4, none⟩ (.int .i64 0)) e 5 v (some g) n (fullM MT i (q + 1) ++ xs.drop ((q + 1) * 5)) ∧
      Chg [g] w (((((w.setCell ⟨g, q * 5, none⟩ (.int .i64 (-1 - (i : Int)))).setCell ⟨g, q * 5 + 1, none⟩ (.string ⟨#[]⟩)).setCell ⟨g, q * 5 + 2, none⟩ (.int .i64 (q : Int))).setCell ⟨g, q * 5 + 3, none⟩ (.int .i64 0)).setCell ⟨g, q * 5 + 4, none⟩ (.int .i64 0)) := by
  have h1 := ((((h.setk (q * 5) (.int .i64 (-1 - (i : Int)))).setk (q * 5 + 1) (.string ⟨#[]⟩)).setk (q * 5 + 2) (.int .i64 (q : Int))).setk (q * 5 + 3) (.int .i64 0)).setk (q * 5 + 4) (.int .i64 0)
  obtain ⟨b0, b1, b2, b3, b4, hd⟩ := drop5 hx hq
  rw [hd, set5 _ _ _ _ _ _ _ _ _ _ _ _ (fullM_length MT_len i q)] at h1
  rw [fullM_succ]
  exact ⟨h1, ((((Chg.set1 g _ _ _).trans' (Chg.set1 g _ _ _)).trans' (Chg.set1 g _ _ _)).trans' (Chg.set1 g _ _ _)).trans' (Chg.set1 g _ _ _)⟩

section
variable {w : World} {os : List Own} {ao : Option Addr} {cap : Nat} (hv : View w 1 (.slice ao os.length cap) os.length (os.map Own.v)) (hown : Owns w 38 5 os) (hdis : ∀ g, (Value.slice ao os.length cap).ownBlock = some g → g ∉ OB os)
  (hn : os.length ≤ 16777216) (hl : ∀ o, o ∈ os → o.n ≤ 16777216)
include hv hown hdis hn hl

set_option maxHeartbeats 8000000 in
set_option maxRecDepth 100000 in
theorem marked_calls : Calls Try.prog 13 #[.slice ao os.length cap] w fun e w' => e = .returned (.bool true) ∧ Chg (OB os) w w' := by
  have HV := hid hv
  have HB := hid hown
  have HL := hid hl
  have HD := hid hdis
  have HX := hid (fun i (hi : i < os.length) => (hown.row i hi).len)
  clear hv hl hown hdis
  go_enter Try.func13, Try.ntmps13
  go_wp2_with fail
  go_loopw [3, 4] (fun i _ wr => ∃ a : Nat, a ≤ os.length ∧ i = .int .i64 a ∧ Owns wr 38 5 (stO MT 5 os a 0) ∧ Chg (OB os) w wr) (fun i _ _ => os.length - (intOf i).toNat)
  case atStart => exact ⟨0, Nat.zero_le _, rfl, by rw [stO_zero]; exact HB.out, Chg.refl _ _⟩
  case round =>
    obtain ⟨a, ha, rfl, hown, hch⟩ := hrel
    by_cases hlt2 : a < os.length
    · obtain ⟨bv, ov, hao, hcv⟩ := view_at HV.out (by omega)
      have cL := hcv a (by omega)
      have e1 : (os.map Own.v).getD a undef = os[a].v := by simp [List.getD, hlt2]
      rw [e1] at cL
      have hnb : bv ∉ OB os := HD.out bv (by rw [hao]; rfl)
      have y0 := hch.cell cL hnb
      have hla := HL.out _ (List.getElem_mem hlt2)
      obtain ⟨aE, cE, hE⟩ := (HB.out.row a hlt2).shape
      rw [hE] at cL y0
      have z1 : (a : Int) < (os.length : Int) := by omega
      have HE := hid hE
      obtain ⟨nE, hnE⟩ : ∃ nE, os[a].n = nE := ⟨_, rfl⟩
      rw [hnE] at cL y0 hla
      have HNE := hid hnE
      have HAO := hid hao
      subst hao
      clear e1 hE hcv hnE
      obtain ⟨wo, rfl⟩ : ∃ wo : World, wo = wr := ⟨_, rfl⟩
      go_wp2_with fail
      go_loopw [4] (fun j wr => ∃ q : Nat, q ≤ nE ∧ j = .int .i64 q ∧ Owns wr 38 5 (stO MT 5 os a q) ∧ Chg (OB os) w wr) (fun j _ => nE - (intOf j).toNat)
      case atStart => exact ⟨0, Nat.zero_le _, rfl, hown, hch⟩
      case round =>
        obtain ⟨q, hq, rfl, hown2, hch2⟩ := hrel
        have y0' := hch2.cell cL hnb
        by_cases hq2 : q < nE
        · have hrow0 := hown2.row a (by rw [stO_length]; exact hlt2)
          rw [stO_get a q a hlt2] at hrow0
          simp only [Nat.lt_irrefl, if_false, if_true] at hrow0
          rw [HE.out, HNE.out] at hrow0
          obtain ⟨g, hg, hgr, hcell, hfz⟩ := hrow0.atk (by omega)
          obtain ⟨x0, c0⟩ : ∃ x, wr.cell? ⟨g, q * 5, none⟩ = some x := ⟨_, hcell (q * 5) (by omega)⟩
          obtain ⟨x1, c1⟩ : ∃ x, wr.cell? ⟨g, q * 5 + 1, none⟩ = some x := ⟨_, hcell (q * 5 + 1) (by omega)⟩
          obtain ⟨x2, c2⟩ : ∃ x, wr.cell? ⟨g, q * 5 + 2, none⟩ = some x := ⟨_, hcell (q * 5 + 2) (by omega)⟩
          obtain ⟨x3, c3⟩ : ∃ x, wr.cell? ⟨g, q * 5 + 3, none⟩ = some x := ⟨_, hcell (q * 5 + 3) (by omega)⟩
          obtain ⟨x4, c4⟩ : ∃ x, wr.cell? ⟨g, q * 5 + 4, none⟩ = some x := ⟨_, hcell (q * 5 + 4) (by omega)⟩
          rw [hgr] at hrow0
          have hst := mark_step (i := a) (q := q) (by have := HX.out a hlt2; rw [HNE.out] at this; exact this) hrow0 hq2
          have HST := hid hst
          have z2 : (q : Int) < (nE : Int) := by omega
          have HGR := hid hgr
          subst hg
          clear hst hrow0 hcell hgr
          go_wp2_with fail
          have hsa : (stO MT 5 os a q)[a]'(by rw [stO_length]; exact hlt2) = ⟨os[a].v, os[a].r, os[a].n, fullM MT a q ++ os[a].xs.drop (q * 5)⟩ := by
            rw [stO_get a q a hlt2]
            simp only [Nat.lt_irrefl, if_false, if_true]
          have hown3 := hown2.set (i := a) (by rw [stO_length]; exact hlt2) (o := ⟨os[a].v, os[a].r, os[a].n, fullM MT a (q + 1) ++ os[a].xs.drop ((q + 1) * 5)⟩) HST.out.2
            (fun j hj g' hja hg' hm => by
              have hm2 : g' = g := by simpa using hm
              rw [hm2] at hg'
              exact hown2.apart j a hj (by rw [stO_length]; exact hlt2) hja g hg' (by rw [hsa]; exact HGR.out))
            (by have h1 := HST.out.1; rw [HE.out, HNE.out, HGR.out]; exact h1)
            (fun j hj g' hja hg' hr' => hown2.apart j a hj (by rw [stO_length]; exact hlt2) hja g' hg' (by rw [hsa]; exact hr'))
          rw [stO_set a q hlt2] at hown3
          have hch3 := hch2.trans HST.out.2 (fun x hx => .inl (by have hx2 : x = g := (by simpa using hx); rw [hx2]; exact mem_OB.2 ⟨os[a], List.getElem_mem hlt2, HGR.out⟩))
          go_roundw
          case rel => exact ⟨q + 1, by omega, by go_num, hown3, hch3⟩
          case measure => simp [intOf]; omega
        · obtain rfl : q = nE := by omega
          have hown4 : Owns wr 38 5 (stO MT 5 os (a + 1) 0) := by rw [← stO_next a hlt2 (HX.out a hlt2), HNE.out]; exact hown2
          go_wp2
          go_roundw
          case rel => exact ⟨a + 1, by omega, by go_num, hown4, hch2⟩
          case measure => simp [intOf]; omega
    · obtain rfl : a = os.length := by omega
      have hgr0 : Gro MT 38 5 23 64 w os wr [] none 0 none := Gro.start HB.out hown hch
      have HG0 := hid hgr0
      clear hgr0 hown hch
      go_wp2_with fail
      go_loopw [5, 6, 7, 8] (fun m i _ _ wr => ∃ gs am cm rm, i = .int .i64 (gs.length : Nat) ∧ m = .slice am gs.length cm ∧ Gro MT 38 5 23 64 w os wr gs am cm rm) (fun _ i _ _ _ => os.length - (intOf i).toNat)
      case atStart => exact ⟨[], none, 0, none, rfl, rfl, HG0.out⟩
      case round =>
        obtain ⟨gs, am, cm, rm, rfl, rfl, hmo⟩ := hrel
        obtain ⟨wo, rfl⟩ : ∃ wo : World, wo = wr := ⟨_, rfl⟩
        have hle := hmo.le
        by_cases hlt3 : gs.length < os.length
        · obtain ⟨bv, ov, hao, hcv⟩ := view_at HV.out (by omega)
          have cL := hcv gs.length (by omega)
          have e1 : (os.map Own.v).getD gs.length undef = os[gs.length].v := by simp [List.getD, hlt3]
          rw [e1] at cL
          have hnb : bv ∉ OB os := HD.out bv (by rw [hao]; rfl)
          have y0 := hmo.chg.cell cL hnb
          have hla := HL.out _ (List.getElem_mem hlt3)
          obtain ⟨aE, cE, hE⟩ := (HB.out.row gs.length hlt3).shape
          rw [hE] at y0
          have osl : (gs ++ (stO MT 5 os os.length 0).drop gs.length).length = os.length := by rw [List.length_append, List.length_drop, stO_length]; omega
          have hrow0 := hmo.own.row gs.length (by rw [osl]; exact hlt3)
          have osi : (gs ++ (stO MT 5 os os.length 0).drop gs.length)[gs.length]'(by rw [osl]; exact hlt3) = ⟨os[gs.length].v, os[gs.length].r, os[gs.length].n, fullM MT gs.length os[gs.length].n⟩ := by
            rw [List.getElem_append_right (Nat.le_refl _), List.getElem_drop]
            simp only [Nat.sub_self, Nat.add_zero]
            rw [stO_get _ _ _ hlt3, if_pos hlt3]
          rw [osi] at hrow0
          have hold0 := hmo.old _ hlt3
          have HMO := hid hmo
          have HEB := hid (fun g (hg : os[gs.length].r = some g) => hrow0.lt g hg)
          have hE0 := HB.out.row gs.length hlt3
          have HE := hid hE
          obtain ⟨nE, hnE⟩ : ∃ nE, os[gs.length].n = nE := ⟨_, rfl⟩
          have HLT := hid hlt3
          rw [hnE] at y0 hla
          have hrow1 := hrow0
          simp only at hrow1
          rw [hE, hnE] at hrow1
          have hold1 := hold0
          rw [hE, hnE] at hold1
          rw [hE, hnE] at hE0
          have HE0 := hid hE0
          have HR0 := hid hrow1
          have HO0 := hid hold1
          have HNE := hid hnE
          have hrM := hmo.rowM
          have z1 : (gs.length : Int) < (os.length : Int) := by omega
          have HAO := hid hao
          subst hao
          clear e1 osl osi hrow0 hold0 hrow1 hold1 hmo hE0 hE hnE cL hcv hlt2
          go_wp2_with fail
          go_loopw [7, 8] (fun v j wx => ∃ (q : Nat) (ao : Option Addr) (cap : Nat) (r : Option Nat), q ≤ 64 ∧ j = .int .i64 q ∧ v = .slice ao (nE + q) cap ∧
              Row wx 38 5 (.slice ao (nE + q) cap) r (nE + q) (fullM MT gs.length nE ++ tailM MT gs.length q) ∧ Hid (r = os[gs.length].r ∨ ∀ g, r = some g → wo.heap.size ≤ g) ∧
              View wx 5 (.slice aE nE cE) nE (fullM MT gs.length nE) ∧ Chg os[gs.length].r.toList wo wx) (fun _ j _ => 64 - (intOf j).toNat)
          case atStart => exact ⟨0, aE, cE, os[gs.length].r, by omega, rfl, rfl, (by have h1 := HR0.out; show Row wo _ 5 _ _ _ (_ ++ tailM MT gs.length 0); rw [tailM_zero, List.append_nil]; exact h1), hid (.inl rfl), HO0.out, Chg.refl _ _⟩
          case round =>
            obtain ⟨q, ao, cap, r, hq, rfl, rfl, hrow, hrel2, hview, hch2⟩ := hrel
            have hsz := hch2.size
            by_cases hq2 : q < 64
            · have hrow' := fun o => hrow.keep ((Chg.refl [] wr).alloc o) (by simp)
              have hv5 := View.struct wr (MT gs.length (-1 - (q : Int))) 38 (MT_len _ _)
              unfold MT at hv5
              clear z1
              go_wp2_with (at_builtin; refine wpList_grew rfl _ _ 23 rfl elem_tok rfl (hrow' _) rfl hv5 (by simp [Value.oneCell']) (by unfold maxLen; omega) (by omega) (fun ao' cap' r' w2 hr2 hg2 => halt (fun X hX => ?_)))
              rw [hX.out]; clear hX
              have hca := (Chg.refl [] wr).alloc (.cells #[.int .i64 (-1 - (gs.length : Int)), .string ⟨#[]⟩, .int .i64 (-1 - (q : Int)), .int .i64 0, .int .i64 0] 38)
              have hgs := grow_stepk (o := ⟨.slice aE nE cE, os[gs.length].r, nE, []⟩) HE0.out HEB.out (Nat.le_trans hsz hca.size) (hview.keep hca (by simp)) hr2 hg2 hrel2.out (by show nE ≤ nE + q + 1; omega) (by
                rw [List.append_assoc]
                exact List.take_left' (fullM_length MT_len _ _))
              have hch3 : Chg os[gs.length].r.toList wo w2 := (hch2.trans' hca.nil).trans hg2.chg (fun x hx => by
                rcases hrel2.out with h1 | h1
                · exact .inl (by rw [← h1]; exact hx)
                · exact .inr (h1 x (by simpa using hx)))
              have hxs : fullM MT gs.length nE ++ tailM MT gs.length q ++ [.int .i64 (-1 - (gs.length : Int)), .string ⟨#[]⟩, .int .i64 (-1 - (q : Int)), .int .i64 0, .int .i64 0] = fullM MT gs.length nE ++ tailM MT gs.length (q + 1) := by
                rw [tailM_succ, List.append_assoc]; rfl
              rw [hxs] at hr2
              have H1 := hid hgs
              have H2 := hid hr2
              have H3 := hid hch3
              clear hxs hgs hr2 hg2 hch3 hch2 hview hrow hrow' hv5 hca
              go_wp2
              go_roundw
              case rel => exact ⟨q + 1, ao', cap', r', by omega, by go_num, rfl, H2.out, hid H1.out.2, H1.out.1, H3.out⟩
              case measure => simp [intOf]; omega
            · obtain rfl : q = 64 := by omega
              have hnbE : ∀ x, x ∈ os[gs.length].r.toList → rm ≠ some x := fun x hx h3 => by
                have h4 := (HMO.out.rmf x h3).1
                have hx2 : os[gs.length].r = some x := by simpa using hx
                have h5 := (HB.out.row gs.length HLT.out).lt x hx2
                omega
              have hrM2 := fun o => (hrM.keep hch2 (fun g hg hm => hnbE g hm hg)).keep ((Chg.refl [] wr).alloc o) (by simp)
              clear z1
              go_wp2_with (at_builtin; refine wpList_grew rfl _ _ 33 rfl elem_toks rfl (hrM2 _) rfl (View.one _ _ _) (by simp [Value.oneCell']) (by unfold maxLen; omega) (by omega) (fun ao' cap' r' w2 hr2 hg2 => halt (fun X hX => ?_)))
              rw [hX.out]; clear hX
              have hca1 : Chg [] wr (wr.alloc (.cells #[.slice ao (nE + 64) cap] 23)) := (Chg.refl [] wr).alloc _
              have hst := HMO.out.step HB.out HLT.out (v' := .slice ao (nE + 64) cap) (by rw [HNE.out]; exact hrow) hrel2.out (by rw [HE.out, HNE.out]; exact hview) hch2 hca1 hr2 hg2
              have HST := hid hst
              clear hst hr2 hg2 hrow hview hch2 hrM2 hca1 hnbE
              go_wp2
              go_roundw
              case rel => exact ⟨_, ao', cap', r', by rw [List.length_append]; go_num, by simp, HST.out⟩
              case measure => simp [intOf]; omega
        · have hlen : gs.length = os.length := by omega
          have hcM := hmo.chg
          have HMO := hid hmo
          have HLEN := hid hlen
          clear hmo hlt2 hlen
          go_wp2_with fail
          go_loop [9, 10, 11, 12] (fun i _ _ _ => ∃ a : Nat, a ≤ os.length ∧ i = .int .i64 a) (fun i _ _ _ => os.length - (intOf i).toNat)
          case atStart => exact ⟨0, Nat.zero_le _, rfl⟩
          case round =>
            obtain ⟨a, ha2, rfl⟩ := hrel
            by_cases hlt4 : a < os.length
            · have hag : a < gs.length := by rw [HLEN.out]; exact hlt4
              obtain ⟨bv, ov, hao, hcv⟩ := view_at HV.out (by omega)
              have cL := hcv a (by omega)
              have e1 : (os.map Own.v).getD a undef = os[a].v := by simp [List.getD, hlt4]
              rw [e1] at cL
              have hnb : bv ∉ OB os := HD.out bv (by rw [hao]; rfl)
              have y0 := HMO.out.chg.cell cL hnb
              obtain ⟨aE, cE, hE⟩ := (HB.out.row a hlt4).shape
              rw [hE] at y0
              obtain ⟨bM, hbM, hrm, hcM2, _⟩ := HMO.out.rowM.atk (by omega)
              have cM := hcM2 a (by omega)
              have e2 : (gs.map Own.v).getD a undef = gs[a].v := by simp [List.getD, hag]
              rw [e2] at cM
              have hgn := HMO.out.gn a hag hlt4
              have hgrow := HMO.out.own.row a (by rw [List.length_append]; omega)
              rw [List.getElem_append_left hag] at hgrow
              rw [hgn.1, hgn.2] at hgrow
              obtain ⟨aoG, capG, hvG⟩ := hgrow.shape
              rw [hvG] at cM hgrow
              have hold := HMO.out.old a hlt4
              rw [hE] at hold
              have hla := HL.out _ (List.getElem_mem hlt4)
              obtain ⟨nE, hnE⟩ : ∃ nE, os[a].n = nE := ⟨_, rfl⟩
              rw [hnE] at y0 cM hgrow hold hla
              have z1 : (a : Int) < (os.length : Int) := by omega
              have z2 : (a : Int) < (gs.length : Int) := by omega
              have HGV := hid hgrow.view
              have HOLD := hid hold
              subst hbM
              have HAO := hid hao
              subst hao
              clear e1 e2 hgn hgrow hvG hE hold cL hcv hcM2 hnE
              go_wp2_with fail
              go_loop [11, 12] (fun q _ => ∃ q' : Nat, q' ≤ nE + 64 ∧ q = .int .i64 q') (fun q _ => nE + 64 - (intOf q).toNat)
              case atStart => exact ⟨0, Nat.zero_le _, rfl⟩
              case round =>
                obtain ⟨q, hq, rfl⟩ := hrel
                by_cases hq2 : q < nE + 64
                · have z3 : (q : Int) < (nE : Int) + 64 := by omega
                  obtain ⟨bG, oG, rfl, cG⟩ := view_at HGV.out (by omega)
                  have g0 := cG (q * 5 + 0) (by omega)
                  have g2 := cG (q * 5 + 2) (by omega)
                  rw [Nat.add_zero] at g0
                  rw [← Nat.add_assoc] at g2
                  by_cases hqn : q < nE
                  · obtain ⟨bE, oE, rfl, cE2⟩ := view_at HOLD.out (by omega)
                    have o2 := cE2 (q * 5 + 2) (by omega)
                    rw [← Nat.add_assoc, fullM_get MT_len a nE q 2 hqn (by omega)] at o2
                    have hA : ∀ j, j < 5 → (fullM MT a nE ++ tailM MT a 64).getD (q * 5 + j) undef = (MT a q).getD j undef := fun j hj => by
                      rw [← fullM_get MT_len a nE q j hqn hj]
                      simp only [List.getD]
                      rw [List.getElem?_append_left (by rw [fullM_length MT_len]; omega)]
                    have hA0 := hA 0 (by omega)
                    rw [Nat.add_zero] at hA0
                    rw [hA0] at g0
                    rw [hA 2 (by omega)] at g2
                    change _ = some (Value.int .i64 (-1 - (a : Int))) at g0
                    change _ = some (Value.int .i64 (q : Int)) at g2
                    change _ = some (Value.int .i64 (q : Int)) at o2
                    have z4 : (q : Int) < (nE : Int) := by omega
                    have d1 : decide ((nE : Int) ≤ (q : Int)) = false := by simp; omega
                    have d2 : decide (nE ≤ q) = false := by simp; omega
                    clear cG cE2 hA hA0
                    go_wp2
                    go_round
                    case rel => exact ⟨q + 1, by omega, by go_num⟩
                    case measure => simp [intOf]; omega
                  · have hA : ∀ j, j < 5 → (fullM MT a nE ++ tailM MT a 64).getD (q * 5 + j) undef = (MT a (-1 - ((q - nE : Nat) : Int))).getD j undef := fun j hj => by
                      rw [← tailM_get MT_len a 64 (q - nE) j (by omega) hj]
                      simp only [List.getD]
                      rw [List.getElem?_append_right (by rw [fullM_length MT_len]; omega), fullM_length MT_len, show q * 5 + j - nE * 5 = (q - nE) * 5 + j from by omega]
                    have hA0 := hA 0 (by omega)
                    rw [Nat.add_zero] at hA0
                    rw [hA0] at g0
                    rw [hA 2 (by omega)] at g2
                    change _ = some (Value.int .i64 (-1 - (a : Int))) at g0
                    change _ = some (Value.int .i64 (-1 - ((q - nE : Nat) : Int))) at g2
                    rw [show (-1 - ((q - nE : Nat) : Int)) = (nE : Int) - 1 - (q : Int) from by omega] at g2
                    have d1 : decide ((nE : Int) ≤ (q : Int)) = true := by simp; omega
                    have d2 : decide (nE ≤ q) = true := by simp; omega
                    have d3 : decide ((q : Int) < (nE : Int)) = false := by simp; omega
                    have d4 : decide (q < nE) = false := by simp; omega
                    have z4 : (nE : Int) ≤ (q : Int) := by omega
                    clear cG hA hA0
                    go_wp2
                    go_round
                    case rel => exact ⟨q + 1, by omega, by go_num⟩
                    case measure => simp [intOf]; omega
                · go_wp2
                  go_round
                  case rel => exact ⟨a + 1, by omega, by go_num⟩
                  case measure => simp [intOf]; omega
            · go_wp2
              go_ret
              exact ⟨rfl, hcM⟩
end
end Go.Proofs.Ytppijmpdoejdmaa
