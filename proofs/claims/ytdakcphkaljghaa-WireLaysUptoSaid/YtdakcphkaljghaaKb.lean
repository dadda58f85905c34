/- Walks of the laws' own: the lists of a book are apart: compared, then written full. -/
import Derived.Test.YtdakcphkaljghaaKc
import Derived.Deep.QuietTactic
import Derived.BigQuiet
import Derived.Deep.RegionWith
namespace Go.Proofs.Ytdakcphkaljghaa
open Go.RowKit Go.AB
set_option linter.unusedSimpArgs false
set_option linter.unusedVariables false

theorem mark_calls (i : Nat) (hi : i ≤ 1099511627776) (p : Int) (hp : -2199023255552 ≤ p ∧ p ≤ 2199023255552) (w : World) : Calls Try.prog 53 #[.int .i64 i, .int .i64 p] w fun e w' => e = .returned (.int .u8 (markB i p).toNat) ∧ w = w' := by
  have h := markB_int i p
  obtain ⟨h1, h2⟩ := hp
  go_enter Try.func53, Try.ntmps53
  go_wp2
  go_ret
  exact ⟨congrArg (fun x => Ending.returned (Value.int .u8 x)) h, rfl⟩

theorem stOs_zero (es : List Ent) : stOs es 0 0 = es.map Ent.own := by
  apply List.ext_getElem (by simp [stOs])
  intro j h1 h2
  rw [stOs_get es 0 0 j (by simpa using h2)]
  simp only [Nat.not_lt_zero, if_false, List.getElem_map, Ent.own]
  by_cases h : j = 0
  · rw [if_pos h]; rfl
  · rw [if_neg h]
theorem stOs_next (es : List Ent) (i : Nat) (hi : i < es.length) : stOs es i es[i].l.length = stOs es (i + 1) 0 := by
  apply List.ext_getElem (by simp [stOs])
  intro j h1 h2
  have hj : j < es.length := by rw [stOs_length] at h1; exact h1
  rw [stOs_get es _ _ j hj, stOs_get es _ _ j hj]
  congr 2
  by_cases h : j < i
  · rw [if_pos h, if_pos (by omega)]
  · rw [if_neg h]
    by_cases h3 : j = i
    · subst h3; rw [if_pos rfl, if_pos (by omega)]
    · rw [if_neg h3, if_neg (by omega)]
      by_cases h4 : j = i + 1
      · rw [if_pos h4]; rfl
      · rw [if_neg h4]
theorem stOs_set (es : List Ent) (i k : Nat) (hi : i < es.length) : (stOs es i k).set i ⟨es[i].v, es[i].r, es[i].l.length, (markN es[i].l i (k + 1)).map B⟩ = stOs es i (k + 1) := by
  apply List.ext_getElem (by simp [stOs])
  intro j h1 h2
  have hj : j < es.length := by rw [stOs_length] at h2; exact h2
  rw [stOs_get es _ _ j hj]
  by_cases h : i = j
  · subst h
    rw [List.getElem_set_self, if_neg (by omega), if_pos rfl]
  · rw [List.getElem_set_ne h, stOs_get es _ _ j hj]
    congr 2
    by_cases h3 : j < i
    · rw [if_pos h3, if_pos h3]
    · rw [if_neg h3, if_neg h3, if_neg (by omega), if_neg (by omega)]

theorem LB_sub {es : List Ent} {b : Nat} {rl rw : Option Nat} {g : Nat} (h : g ∈ LB es) : g ∈ bkBlocks b es rl rw := by
  obtain ⟨e, he, h1⟩ := mem_LB.1 h
  exact bk_mem.2 (.inr (.inr (.inr ⟨e, he, .inl h1⟩)))

theorem view_byte {w : World} {ao : Option Addr} {m cap : Nat} {l : List UInt8} (h : View w 1 (.slice ao m cap) m (l.map B)) {q : Nat} {x : UInt8} (hq : q < m) (hx : l[q]? = some x) : ∃ b off, ao = some ⟨b, off, none⟩ ∧ w.cell? ⟨b, off + q, none⟩ = some (.int .u8 x.toNat) := by
  obtain ⟨_, _, ao', cap', hv, _, _, _, hc⟩ := h
  simp only [Value.slice.injEq, true_and] at hv
  obtain ⟨rfl, rfl⟩ := hv
  obtain ⟨b, off, hb, hcell⟩ := hc (by omega)
  refine ⟨b, off, hb, ?_⟩
  rw [hcell q (by omega)]
  simp [List.getD, hx, B]
/-- A slice of slices, one of them. -/
theorem rowv_at {w : World} {T : Nat} {ao : Option Addr} {cap : Nat} {r : Option Nat} {n : Nat} {vs : List Value} (h : Row w T 1 (.slice ao n cap) r n vs) {i : Nat} (hi : i < n) : ∃ g, ao = some ⟨g, 0, none⟩ ∧ r = some g ∧ w.cell? ⟨g, i, none⟩ = some (vs.getD i undef) := by
  rcases h.form with ⟨_, h0, _⟩ | ⟨g, cap', cur, hv, rfl, hnc, hcm, hg, hcs, ht⟩
  · omega
  · simp only [Value.slice.injEq, true_and] at hv
    obtain ⟨rfl, rfl⟩ := hv
    refine ⟨g, rfl, rfl, ?_⟩
    rw [blk_cell hg, ← ht]
    simp only [List.getD, List.getElem?_take]
    rw [if_pos (by omega)]
    have : i < cur.size := by omega
    simp [this]

section
variable {w : World} {b : Nat} {es : List Ent} {rl rw : Option Nat} {al aw : Option Addr} {cl cw : Nat} (h : Bk w b es rl rw al aw cl cw) (hn : es.length ≤ 16777216) (hl : ∀ e, e ∈ es → e.l.length ≤ 1099511627776)
include h hn hl

set_option maxHeartbeats 8000000 in
set_option maxRecDepth 100000 in
theorem apart_calls : Calls Try.prog 17 #[.pointer (some ⟨b, 0, none⟩)] w fun e w' => e = .returned (.bool true) ∧ Chg (b :: LB es) w w' := by
  have HB := hid h
  have HL := hid hl
  clear h hl
  go_enter Try.func17, Try.ntmps17
  go_wp2
  go_loopw [3] (fun i wr => ∃ k m : Nat, k ≤ es.length ∧ i = .int .i64 k ∧ wr = w.drewN m) (fun i _ => es.length - (intOf i).toNat)
  case atStart => exact ⟨0, 0, Nat.zero_le _, rfl, rfl⟩
  case round =>
    obtain ⟨k, m, hk, rfl, rfl⟩ := hrel
    have x0 := HB.out.c0
    have x1 := HB.out.c1
    by_cases hlt : k < es.length
    · obtain ⟨gL, rfl, hrl, cL⟩ := rowv_at HB.out.rowL hlt
      obtain ⟨gW, rfl, hrw, cW⟩ := rowv_at HB.out.rowW hlt
      have e1 : (es.map Ent.v).getD k undef = .slice es[k].ao es[k].l.length es[k].cap := by simp [List.getD, hlt, Ent.v]
      have e2 : (es.map Ent.wv).getD k undef = .slice es[k].wo es[k].l.length es[k].wc := by simp [List.getD, hlt, Ent.wv]
      rw [e1] at cL
      rw [e2] at cW
      have hrk := HB.out.lists.row k (by simpa using hlt)
      simp only [List.getElem_map, Ent.own] at hrk
      have hwk := HB.out.wants _ (List.getElem_mem hlt)
      have v1 := fun n => run_conv_view (P := Try.prog) Try.underlying25 Try.underlying5 Try.underlying9 (hrk.keep (Chg.of_drewN [] w n) (by simp)).view (w.drewN n) rfl
      have v2 := fun n => run_conv_view (P := Try.prog) Try.underlying25 Try.underlying5 Try.underlying9 (hwk.keep (Chg.of_drewN [] w n) (by simp)).view (w.drewN n) rfl
      simp only [Ent.v, Ent.wv] at v1 v2
      obtain ⟨E, hE⟩ : ∃ E, es[k] = E := ⟨_, rfl⟩
      rw [hE] at cL cW v1 v2
      have z1 : (k : Int) < (es.length : Int) := by omega
      clear e1 e2 hrk hwk hE
      go_wp2_with fail
      go_quiet (fail)
      go_wp2
      go_roundw
      case rel => exact ⟨k + 1, _, by omega, by go_num, rfl⟩
      case measure => simp [intOf]; omega
    · have hbLB : b ∉ LB es := fun hm => by
        obtain ⟨e, he, h1⟩ := mem_LB.1 hm
        exact (HB.out.dl e he b h1).1 rfl
      have hlLB : ∀ g, rl = some g → g ∉ LB es := fun g hg hm => by
        obtain ⟨e, he, h1⟩ := mem_LB.1 hm
        exact (HB.out.dl e he g h1).2.1 hg
      go_wp2_with fail
      clear x0 x1
      go_loopw [4] (fun i wr => ∃ a : Nat, a ≤ es.length ∧ i = .int .i64 a ∧ Owns wr 5 1 (stOs es a 0) ∧ Chg (LB es) w wr) (fun i _ => es.length - (intOf i).toNat)
      case atStart => exact ⟨0, Nat.zero_le _, rfl, by rw [stOs_zero]; exact HB.out.lists.keep (Chg.of_drewN [] _ _) (by simp), Chg.of_drewN _ _ _⟩
      case round =>
        obtain ⟨a, ha, rfl, hown, hch⟩ := hrel
        have x0 := hch.cell HB.out.c0 hbLB
        by_cases hlt2 : a < es.length
        · obtain ⟨gL, rfl, hrl, cL⟩ := rowv_at HB.out.rowL hlt2
          have e1 : (es.map Ent.v).getD a undef = .slice es[a].ao es[a].l.length es[a].cap := by simp [List.getD, hlt2, Ent.v]
          rw [e1] at cL
          have y0 := hch.cell cL (hlLB gL hrl)
          have hla := HL.out _ (List.getElem_mem hlt2)
          obtain ⟨E, hE⟩ : ∃ E, es[a] = E := ⟨_, rfl⟩
          have HE := hid hE
          rw [hE] at cL y0 hla
          have z1 : (a : Int) < (es.length : Int) := by omega
          clear e1 hE
          go_wp2_with fail
          go_loopw [5] (fun j wr => ∃ q : Nat, q ≤ E.l.length ∧ j = .int .i64 q ∧ Owns wr 5 1 (stOs es a q) ∧ Chg (LB es) w wr) (fun j _ => E.l.length - (intOf j).toNat)
          case atStart => exact ⟨0, Nat.zero_le _, rfl, hown, hch⟩
          case round =>
            obtain ⟨q, hq, rfl, hown2, hch2⟩ := hrel
            have x0' := hch2.cell HB.out.c0 hbLB
            have y0' := hch2.cell cL (hlLB gL hrl)
            by_cases hq2 : q < E.l.length
            · have hrow0 := hown2.row a (by rw [stOs_length]; exact hlt2)
              rw [stOs_get es a q a hlt2] at hrow0
              simp only [Nat.lt_irrefl, if_false, if_true, HE.out] at hrow0
              have hrow : Row wr 5 1 (.slice E.ao (markN E.l a q).length E.cap) E.r (markN E.l a q).length ((markN E.l a q).map B) := by rw [markN_length]; exact hrow0
              obtain ⟨g, hg, hgr, c1, f1, hst⟩ := hrow.at (k := q) (by rw [markN_length]; exact hq2)
              obtain ⟨hrow5, hch5⟩ := hst (markB a q)
              simp only [B] at hrow5 hch5
              have hmk := fun u => mark_calls a (by omega) (q : Int) (by omega) u
              have HMK := hid hmk
              have z2 : (q : Int) < (E.l.length : Int) := by omega
              rw [hg] at y0'
              have hgLB : g ∈ LB es := mem_LB.2 ⟨E, by rw [← HE.out]; exact List.getElem_mem hlt2, hgr⟩
              clear hst hrow0 hmk x0 y0
              go_wp2_with fail
              go_region_with (go_at_call 53; refine (HMK.out _).mono ?_; rintro e w3 ⟨rfl, rfl⟩)
              all_goals
                have hsa : (stOs es a q)[a]'(by rw [stOs_length]; exact hlt2) = ⟨E.v, E.r, E.l.length, (markN E.l a q).map B⟩ := by
                  rw [stOs_get es a q a hlt2]
                  simp only [Nat.lt_irrefl, if_false, if_true, HE.out]
                have hown3 : Owns (wr.setCell ⟨g, q, none⟩ (.int .u8 (markB a q).toNat)) 5 1 (stOs es a (q + 1)) := by
                  have h1 := hown2.set (i := a) (by rw [stOs_length]; exact hlt2) (o := ⟨E.v, E.r, E.l.length, (markN E.l a (q + 1)).map B⟩) hch5
                    (fun j hj g' hja hg' hm => by
                      have hm2 : g' = g := by simpa using hm
                      rw [hm2] at hg'
                      exact hown2.apart j a hj (by rw [stOs_length]; exact hlt2) hja g hg' (by rw [hsa]; exact hgr))
                    (by rw [markN_length] at hrow5; exact hrow5)
                    (fun j hj g' hja hg' hr' => hown2.apart j a hj (by rw [stOs_length]; exact hlt2) hja g' hg' (by rw [hsa]; exact hr'))
                  have h2 := stOs_set es a q hlt2
                  rw [HE.out] at h2
                  rw [h2] at h1
                  exact h1
                have hch6 : Chg (LB es) w (wr.setCell ⟨g, q, none⟩ (.int .u8 (markB a q).toNat)) := hch2.trans hch5 (fun x hx => .inl (by have hx2 : x = g := (by simpa using hx); rw [hx2]; exact hgLB))
                have hown4 := hown3.keep (Chg.of_drewN [] _ 1) (by simp)
                have hch7 := hch6.drewN 1
                go_wp2
                go_roundw
                case rel => exact ⟨q + 1, by omega, by go_num, hown4, hch7⟩
                case measure => simp [intOf]; omega
            · obtain rfl : q = E.l.length := by omega
              go_wp2
              go_roundw
              case rel => exact ⟨a + 1, by omega, by go_num, by have h2 := stOs_next es a hlt2; rw [HE.out] at h2; rw [← h2]; exact hown2, hch2⟩
              case measure => simp [intOf]; omega
        · obtain rfl : a = es.length := by omega
          have hmo0 : Mo w b es rl al aw cl cw wr [] none 0 none := by
            refine ⟨hch.heap HB.out.blk hbLB, HB.out.rowL.keep hch (fun g hg => hlLB g hg), Row.nil _ _ _, Nat.zero_le _, hown, fun j hj => ?_, fun j hj => by simp at hj, fun j hj => by simp at hj, fun g hg => by simp at hg, hch.mono (fun x hx => .inl (List.mem_cons_of_mem _ hx))⟩
            have h1 := hown.row j (by rw [stOs_length]; exact hj)
            rw [stOs_get es _ _ j hj, if_pos hj] at h1
            exact h1.view
          have HMO0 := hid hmo0
          clear hmo0 hown
          go_wp2_with fail
          clear x0
          go_loopw [6] (fun i wr => ∃ gs am cm rm, i = .int .i64 (gs.length : Nat) ∧ Mo w b es rl al aw cl cw wr gs am cm rm) (fun i _ => es.length - (intOf i).toNat)
          case atStart => exact ⟨[], none, 0, none, rfl, HMO0.out⟩
          case round =>
            obtain ⟨gs, am, cm, rm, rfl, hmo⟩ := hrel
            obtain ⟨wo, rfl⟩ : ∃ wo : World, wo = wr := ⟨_, rfl⟩
            have hle := hmo.le
            have x0 := (blk_cell hmo.blk 0).trans rfl
            by_cases hlt3 : gs.length < es.length
            · obtain ⟨gL, hgL, hrl, cL⟩ := rowv_at hmo.rowL hlt3
              have e1 : (es.map Ent.v).getD gs.length undef = .slice es[gs.length].ao es[gs.length].l.length es[gs.length].cap := by simp [List.getD, hlt3, Ent.v]
              rw [e1] at cL
              rw [hgL] at x0
              have hla := HL.out _ (List.getElem_mem hlt3)
              have osl : (gs ++ (stOs es es.length 0).drop gs.length).length = es.length := by rw [List.length_append, List.length_drop, stOs_length]; omega
              have hrow0 := hmo.own.row gs.length (by rw [osl]; exact hlt3)
              have osi : (gs ++ (stOs es es.length 0).drop gs.length)[gs.length]'(by rw [osl]; exact hlt3) = ⟨es[gs.length].v, es[gs.length].r, es[gs.length].l.length, (markN es[gs.length].l gs.length es[gs.length].l.length).map B⟩ := by
                rw [List.getElem_append_right (Nat.le_refl _), List.getElem_drop]
                simp only [Nat.sub_self, Nat.add_zero]
                rw [stOs_get es _ _ _ hlt3, if_pos hlt3]
              rw [osi] at hrow0
              have hold0 := hmo.old _ hlt3
              have HMO := hid hmo
              obtain ⟨i, hi⟩ : ∃ i, gs.length = i := ⟨_, rfl⟩
              have hE0 := HB.out.lists.row gs.length (by simpa using hlt3)
              simp only [List.getElem_map, Ent.own] at hE0
              have hEB : ∀ g, es[gs.length].r = some g → g < wo.heap.size := fun g hg => hrow0.lt g hg
              have HLT := hid hlt3
              have HEB := hid hEB
              have HE0 := hid hE0
              have HR0 := hid hrow0
              have HO0 := hid hold0
              have hrM := hmo.rowM
              have xM := (blk_cell hmo.blk 2).trans rfl
              have z1 : (gs.length : Int) < (es.length : Int) := by omega
              clear e1 hgL osi osl hrow0 hold0 hmo hi hE0 hEB hlt2
              have hnb : ∀ x, x ∈ es[gs.length].r.toList → x ≠ b ∧ rl ≠ some x ∧ rm ≠ some x := fun x hx => by
                have hx2 : es[gs.length].r = some x := by simpa using hx
                have hd := HB.out.dl _ (List.getElem_mem hlt3) x hx2
                refine ⟨hd.1, hd.2.1, fun h3 => ?_⟩
                have h4 := (HMO.out.rmf x h3).1
                have h5 := HB.out.lt x (bk_mem.2 (.inr (.inr (.inr ⟨_, List.getElem_mem hlt3, .inl hx2⟩))))
                omega
              have HNB := hid hnb
              clear hnb
              go_wp2_with fail
              go_loopw [7, 8] (fun v j wx => ∃ (q : Nat) (ao : Option Addr) (cap : Nat) (r : Option Nat), q ≤ 64 ∧ j = .int .i64 q ∧ v = .slice ao (es[gs.length].l.length + q) cap ∧
                  Row wx 5 1 (.slice ao (es[gs.length].l.length + q) cap) r (es[gs.length].l.length + q) ((markN es[gs.length].l gs.length es[gs.length].l.length ++ tailB gs.length q).map B) ∧ Hid (r = es[gs.length].r ∨ ∀ g, r = some g → wo.heap.size ≤ g) ∧
                  View wx 1 es[gs.length].v es[gs.length].l.length ((markN es[gs.length].l gs.length es[gs.length].l.length).map B) ∧ Chg es[gs.length].r.toList wo wx) (fun _ j _ => 64 - (intOf j).toNat)
              case atStart => exact ⟨0, _, _, es[gs.length].r, by omega, rfl, rfl, (by have h1 := HR0.out; show Row wo _ 1 _ _ _ ((_ ++ tailB gs.length 0).map B); rw [show tailB gs.length 0 = [] from rfl, List.append_nil]; exact h1), hid (.inl rfl), HO0.out, Chg.refl _ _⟩
              case round =>
                obtain ⟨q, ao, cap, r, hq, rfl, rfl, hrow, hrel2, hview, hch2⟩ := hrel
                have hsz := hch2.size
                by_cases hq2 : q < 64
                · have hmk := fun u => mark_calls gs.length (by omega) (-1 - (q : Int)) (by omega) u
                  have HMK := hid hmk
                  have hrow' := fun o => hrow.keep ((Chg.refl [] wr).alloc o) (by simp)
                  clear hmk x0 xM z1 cL
                  go_wp2_with (first
                    | (go_at_call 53; refine (HMK.out _).mono ?_; rintro e w3 ⟨rfl, rfl⟩)
                    | (at_builtin; refine wpList_grew rfl _ _ 25 rfl elem_u8 rfl (hrow' _) rfl (View.one _ _ _) (by simp [Value.oneCell']) (by unfold maxLen; omega) (by omega) (fun ao' cap' r' w2 hr2 hg2 => halt (fun X hX => ?_))))
                  rw [hX.out]; clear hX
                  have hsz3 : wo.heap.size ≤ (wr.alloc (.cells #[.int .u8 (markB gs.length (-1 - (q : Int))).toNat] 5)).heap.size := by simp; omega
                  have hgs := grow_step HE0.out HEB.out hsz3 (hview.keep ((Chg.refl [] wr).alloc (.cells #[.int .u8 (markB gs.length (-1 - (q : Int))).toNat] 5)) (by simp)) hr2 hg2 hrel2.out (by omega) (by
                    rw [List.map_append, List.append_assoc]
                    exact List.take_left' (by rw [List.length_map, markN_length]; rfl))
                  have hch3 : Chg es[gs.length].r.toList wo w2 := (hch2.trans' (((Chg.refl [] wr).alloc _).nil)).trans hg2.chg (fun x hx => by
                    rcases hrel2.out with h1 | h1
                    · exact .inl (by rw [← h1]; exact hx)
                    · exact .inr (h1 x (by simpa using hx)))
                  have hxs : (markN es[gs.length].l gs.length es[gs.length].l.length ++ tailB gs.length q).map B ++ [.int .u8 (markB gs.length (-1 - (q : Int))).toNat] = (markN es[gs.length].l gs.length es[gs.length].l.length ++ tailB gs.length (q + 1)).map B := by
                    simp only [tailB_succ, List.map_append, List.append_assoc, List.map_cons, List.map_nil, B]
                  rw [hxs] at hr2
                  have H1 := hid hgs
                  have H2 := hid hr2
                  have H3 := hid hch3
                  clear hxs hgs hr2 hg2 hch3 hch2 hview hrow hrow' HMK
                  go_wp2
                  go_roundw
                  case rel => exact ⟨q + 1, ao', cap', r', by omega, by go_num, rfl, H2.out, hid H1.out.2, H1.out.1, H3.out⟩
                  case measure => simp [intOf]; omega
                · obtain rfl : q = 64 := by omega
                  have xM2 := hch2.cell xM (fun hm => (HNB.out b hm).1 rfl)
                  have hbf := blk_free (hch2.heap HMO.out.blk (fun hm => (HNB.out b hm).1 rfl))
                  have hrM2 := fun o => (hrM.keep hch2 (fun g hg hm => (HNB.out g hm).2.2 hg)).keep ((Chg.refl [] wr).alloc o) (by simp)
                  clear xM x0 cL z1
                  go_wp2_with (at_builtin; refine wpList_grew rfl _ _ 29 rfl elem_bytes rfl (hrM2 _) rfl (View.one _ _ _) (by simp [Value.oneCell']) (by unfold maxLen; omega) (by omega) (fun ao' cap' r' w2 hr2 hg2 => halt (fun X hX => ?_)))
                  rw [hX.out]; clear hX
                  have hca1 : Chg [] wr (wr.alloc (.cells #[.slice ao (es[gs.length].l.length + 64) cap] 25)) := (Chg.refl [] wr).alloc _
                  have hst := HMO.out.step HB.out HLT.out (v' := .slice ao (es[gs.length].l.length + 64) cap) hrow hrel2.out hview hch2 hca1 hr2 hg2
                  have xb := hg2.chg.cell (hca1.cell xM2 (by simp)) (fun hm => by have := (HMO.out.rmf b (by simpa using hm)).1; have := blk_lt HB.out.blk; omega)
                  have yb := blk_free (hg2.chg.heap (hca1.heap (hch2.heap HMO.out.blk (fun hm => (HNB.out b hm).1 rfl)) (by simp)) (fun hm => by have := (HMO.out.rmf b (by simpa using hm)).1; have := blk_lt HB.out.blk; omega)) 2
                  have HST := hid hst
                  clear hst hr2 hg2 hrow hview hch2 hrM2 hbf xM2
                  go_wp2
                  go_roundw
                  case rel => exact ⟨_, ao', cap', r', by rw [List.length_append]; go_num, HST.out⟩
                  case measure => simp [intOf]; omega
            · have hlen : gs.length = es.length := by omega
              have hcM := hmo.chg
              have y0 := (blk_cell hmo.blk 0).trans rfl
              have y2 := (blk_cell hmo.blk 2).trans rfl
              have HMO := hid hmo
              have HLEN := hid hlen
              clear hmo hlt2 hlen
              go_wp2_with fail
              clear x0
              go_loop [9] (fun i => ∃ a : Nat, a ≤ es.length ∧ i = .int .i64 a) (fun i => es.length - (intOf i).toNat)
              case atStart => exact ⟨0, Nat.zero_le _, rfl⟩
              case round =>
                obtain ⟨a, ha2, rfl⟩ := hrel
                by_cases hlt4 : a < es.length
                · have hag : a < gs.length := by rw [HLEN.out]; exact hlt4
                  obtain ⟨gL, rfl, hrl, cL⟩ := rowv_at HMO.out.rowL hlt4
                  obtain ⟨gM, rfl, hrm, cM⟩ := rowv_at HMO.out.rowM hag
                  have e1 : (es.map Ent.v).getD a undef = .slice es[a].ao es[a].l.length es[a].cap := by simp [List.getD, hlt4, Ent.v]
                  rw [e1] at cL
                  have e2 : (gs.map Own.v).getD a undef = gs[a].v := by simp [List.getD, hag]
                  rw [e2] at cM
                  have hgn := HMO.out.gn a hag hlt4
                  have hgrow := HMO.out.own.row a (by rw [List.length_append]; omega)
                  rw [List.getElem_append_left hag] at hgrow
                  rw [hgn.1, hgn.2] at hgrow
                  obtain ⟨aoG, capG, hvG⟩ := hgrow.shape
                  rw [hvG] at cM hgrow
                  have hold := HMO.out.old a hlt4
                  have hla := HL.out _ (List.getElem_mem hlt4)
                  obtain ⟨E, hE⟩ : ∃ E, es[a] = E := ⟨_, rfl⟩
                  rw [hE] at cL cM hgrow hold hla
                  have z1 : (a : Int) < (es.length : Int) := by omega
                  have z2 : (a : Int) < (gs.length : Int) := by omega
                  have hgv := hgrow.view
                  have HGV := hid hgv
                  have HOLD := hid hold
                  clear e1 e2 hgn hgrow hvG hE hgv hold
                  go_wp2_with fail
                  go_loop [11] (fun q => ∃ q' : Nat, q' ≤ E.l.length + 64 ∧ q = .int .i64 q') (fun q => E.l.length + 64 - (intOf q).toNat)
                  case atStart => exact ⟨0, Nat.zero_le _, rfl⟩
                  case round =>
                    obtain ⟨q, hq, rfl⟩ := hrel
                    by_cases hq2 : q < E.l.length + 64
                    · have HMK := hid (fun u => mark_calls a (by omega) (q : Int) (by omega) u)
                      have z3 : (q : Int) < (E.l.length : Int) + 64 := by omega
                      by_cases hqn : q < E.l.length
                      · have hx1 : (markN E.l a E.l.length)[q]? = some (markB a q) := markN_get E.l a _ q hqn hqn
                        obtain ⟨bG, oG, rfl, cG⟩ := view_byte HGV.out hq2 (x := markB a q) (by rw [List.getElem?_append_left (by rw [markN_length]; exact hqn)]; exact hx1)
                        have hov := HOLD.out
                        unfold Ent.v at hov
                        obtain ⟨bE, oE, hEo, cE⟩ := view_byte hov hqn hx1
                        rw [hEo] at cL
                        have z4 : (q : Int) < (E.l.length : Int) := by omega
                        have d1 : decide ((E.l.length : Int) ≤ (q : Int)) = false := by simp; omega
                        have d2 : decide (E.l.length ≤ q) = false := by simp; omega
                        clear hx1 hov hEo
                        go_wp2_with (go_at_call 53; refine (HMK.out _).mono ?_; rintro e w3 ⟨rfl, rfl⟩)
                        go_round
                        case rel => exact ⟨q + 1, by omega, by go_num⟩
                        case measure => simp [intOf]; omega
                      · have hx1 : (tailB a 64)[q - E.l.length]? = some (markB a (-1 - ((q - E.l.length : Nat) : Int))) := tailB_get a 64 _ (by omega)
                        have hee : (-1 - ((q - E.l.length : Nat) : Int)) = (E.l.length : Int) - 1 - (q : Int) := by omega
                        rw [hee] at hx1
                        obtain ⟨bG, oG, rfl, cG⟩ := view_byte HGV.out hq2 (x := markB a ((E.l.length : Int) - 1 - (q : Int))) (by rw [List.getElem?_append_right (by rw [markN_length]; omega), markN_length]; exact hx1)
                        have HMK2 := hid (fun u => mark_calls a (by omega) ((E.l.length : Int) - 1 - (q : Int)) (by omega) u)
                        have d1 : decide ((E.l.length : Int) ≤ (q : Int)) = true := by simp; omega
                        have d2 : decide (E.l.length ≤ q) = true := by simp; omega
                        have d3 : decide ((q : Int) < (E.l.length : Int)) = false := by simp; omega
                        have d4 : decide (q < E.l.length) = false := by simp; omega
                        have z4 : (E.l.length : Int) ≤ (q : Int) := by omega
                        clear hx1 hee
                        go_wp2_with (first
                          | (go_at_call 53; (with_reducible refine (HMK.out _).mono ?_); rintro e w3 ⟨rfl, rfl⟩)
                          | (go_at_call 53; (with_reducible refine (HMK2.out _).mono ?_); rintro e w3 ⟨rfl, rfl⟩))
                        go_round
                        case rel => exact ⟨q + 1, by omega, by go_num⟩
                        case measure => simp [intOf]; omega
                    · go_wp2
                      go_round
                      case rel => exact ⟨a + 1, by omega, by go_num⟩
                      case measure => simp [intOf]; omega
                · go_wp2
                  go_ret
                  exact ⟨rfl, hcM⟩
end
end Go.Proofs.Ytdakcphkaljghaa
