/- Walks of the epochs' laws: EpochReads. -/
import Derived.Test.YtngpfoddeebbmaaDoorEk
import Derived.Deep.RegionHeld3
namespace Go.Proofs.YtngpfoddeebbmaaDoor
open Go.RowKit Go.AB
set_option linter.unusedSimpArgs false
set_option linter.unusedVariables false

/-- The number of 64 bits ahead. -/
def prv (x : Int) : Int := IntKind.u64.wrap (x - 1)
theorem prv_bd (x : Int) : 0 ≤ prv x := by unfold prv; rw [IntKind.wrap_u64]; omega
theorem set_prv (xs : List Int) (k : Nat) (hk : k < xs.length) (C : List Value) : (((xs.take k).map prv ++ xs.drop k).map (Value.int .u64) ++ C).set k (.int .u64 (prv xs[k])) = ((xs.take (k + 1)).map prv ++ xs.drop (k + 1)).map (Value.int .u64) ++ C := by
  have h1 : ((xs.take k).map prv).length = k := by simp; omega
  rw [List.take_succ_eq_append_getElem hk, List.drop_eq_getElem_cons hk, List.map_append, List.append_assoc, List.set_append_right _ _ (by rw [List.length_map, h1]; exact Nat.le_refl _), List.length_map, h1, Nat.sub_self, List.map_cons, List.cons_append, List.set_cons_zero]
  simp only [List.map_append, List.map_cons, List.map_nil, List.append_assoc, List.cons_append, List.nil_append]

set_option maxHeartbeats 8000000 in
set_option maxRecDepth 100000 in
theorem reads_walk (E : Int) (h0 : 0 ≤ E) (h1 : E < 18446744073709551616) (cs : List Int) (hx0 : ∀ x ∈ cs, 0 ≤ x) (hn : cs.length ≤ 1048576) {ao : Option Addr} {cap : Nat} (w : World) (hv : View w 1 (.slice ao cs.length cap) cs.length (cs.map (Value.int .u64))) (htab : Pow10 w) :
    Calls Tryd.prog 6 #[.int .u64 E, .slice ao cs.length cap] w fun e w' => e = .returned (.bool true) ∧ Chg [] w w' := by
  have HL := hid lives_calls
  have HV := hid hv
  have HT := hid htab
  have HX := hid hx0
  have pn := hid (And.intro (next_calls E h0 h1) (r_next_calls E h0 h1))
  have pv := hid (And.intro (valid_calls E h0 h1) (r_valid_calls E h0 h1))
  have pt := hid (And.intro (thread_calls E h0 h1) (r_thread_calls E h0 h1))
  have pc := hid (And.intro (clock_calls E h0 h1) (r_clock_calls E h0 h1))
  have px := hid (And.intro (text_calls E h0 h1) (r_text_calls E h0 h1))
  have pb := hid (And.intro (bytes_calls E h0 h1) (r_bytes_calls E h0 h1))
  have pl := hid (And.intro (fun cs ao cap w hv hm => @leq_calls E h0 h1 cs ao cap w hv hm) (fun cs ao cap w hv => @r_leq_calls E h0 h1 cs ao cap w hv))
  obtain ⟨n, hnn⟩ : ∃ n, cs.length = n := ⟨_, rfl⟩
  have HN := hid hnn
  rw [hnn] at HV hn ⊢
  obtain ⟨⟨N, f⟩, hne⟩ : ∃ p, nextE E = p := ⟨_, rfl⟩
  obtain ⟨⟨T, C, b⟩, hpe⟩ : ∃ p : Int × Int × Bool, partsE E = p := ⟨_, rfl⟩
  rw [hne] at pn
  rw [hpe] at pv pt pc
  simp only at pn pv pt pc
  have heg := eqg8
  have hnq := fun u => neq8 u E
  obtain ⟨Bs, hBs⟩ : ∃ B, bytesE E = B := ⟨_, rfl⟩
  obtain ⟨S, hS⟩ : ∃ s, textE E = s := ⟨_, rfl⟩
  rw [hBs] at pb hnq
  rw [hS] at px
  clear hv htab hx0 h1 hnn hne hpe hBs hS
  go_enter Tryd.func6, Tryd.ntmps6
  go_wp2_with (first
    | (go_at_call 13; refine (pn.out.1 _).mono ?_; rintro e w' ⟨rfl, rfl⟩)
    | (go_at_call 14; refine (pn.out.2 _).mono ?_; rintro e w' ⟨rfl, rfl⟩)
    | (go_at_call 19; refine (pv.out.1 _).mono ?_; rintro e w' ⟨rfl, rfl⟩)
    | (go_at_call 20; refine (pv.out.2 _).mono ?_; rintro e w' ⟨rfl, rfl⟩)
    | (go_at_call 21; refine (pt.out.1 _).mono ?_; rintro e w' ⟨rfl, rfl⟩)
    | (go_at_call 22; refine (pt.out.2 _).mono ?_; rintro e w' ⟨rfl, rfl⟩)
    | (go_at_call 23; refine (pc.out.1 _).mono ?_; rintro e w' ⟨rfl, rfl⟩)
    | (go_at_call 24; refine (pc.out.2 _).mono ?_; rintro e w' ⟨rfl, rfl⟩)
    | (go_at_call 12; refine (num_calls _ _).mono ?_; rintro e w' ⟨rfl, rfl⟩)
    | (go_at_call 25; refine (px.out.1 _ HT.out).mono ?_; rintro e w1 ⟨rfl, hc1⟩; have HC1 := hid hc1; clear hc1)
    | (go_at_call 26; refine (px.out.2 _ (HT.out.keep HC1.out)).mono ?_; rintro e w2 ⟨rfl, hc2⟩; have HC2 := hid (HC1.out.trans' hc2); clear hc2)
    | (go_at_call 27; refine (pb.out.1 _).mono ?_; rintro e w3 ⟨rfl, hc3⟩; have HC3 := hid (HC2.out.trans' hc3); clear hc3)
    | (go_at_call 28; refine (pb.out.2 _).mono ?_; rintro e w4 ⟨rfl, hc4⟩; have HC4 := hid (HC3.out.trans' hc4); clear hc4)
    | (go_at_call 29; refine halt (fun X hX => ?_)))
  rw [hX.out]; clear hX
  refine (lent_calls n cs HN.out hn _ (HV.out.keep HC4.out (by simp))).mono ?_
  rintro e w5 ⟨g, cap2, rfl, hl⟩
  have hc5 : Chg [] w w5 := HC4.out.trans' hl.chg
  have hgw : w.heap.size ≤ g := Nat.le_trans HC4.out.size hl.new
  have hlm : (cs.map (Value.int .u64)).length = n := by rw [List.length_map, HN.out]
  have hvp := hl.row.viewPre (m := n) (cap := cap2) (by omega) (by have := hl.hcap; omega) hl.hmax
  rw [Nat.mul_one, List.take_left' hlm] at hvp
  have hv5 := HV.out.keep hc5 (by simp)
  have ha := pl.out.1 cs (some ⟨g, 0, none⟩) cap2 w5 (by rw [HN.out]; exact hvp) (by rw [HN.out]; omega)
  have hb := pl.out.2 cs ao cap w5 (by rw [HN.out]; exact hv5)
  rw [HN.out] at ha hb
  have hle := left_calls n cs HN.out hn w5 hv5 hl.row hl.hcap
  obtain ⟨L, hL⟩ : ∃ L, leqE E cs = L := ⟨_, rfl⟩
  rw [hL] at ha hb
  have HA := hid ha
  have HB := hid hb
  have HLE := hid hle
  have HR5 := hid hl
  have HC5 := hid (And.intro hc5 hgw)
  clear hc5 hgw hvp hv5 ha hb hle hL hl hlm heg hnq
  go_wp2_with (first
    | (go_at_call 16; refine HA.out.mono ?_; rintro e w' ⟨rfl, rfl⟩)
    | (go_at_call 30; refine HB.out.mono ?_; rintro e w' ⟨rfl, rfl⟩)
    | (go_at_call 31; refine HLE.out.mono ?_; rintro e w' ⟨rfl, m5, rfl⟩))
  have hrow0 : Row (w5.drewN m5) 22 1 (.slice (some ⟨g, 0, none⟩) (n + 1) cap2) (some g) (n + 1) (((cs.take 0).map prv ++ cs.drop 0).map (Value.int .u64) ++ [.int .u64 77]) := HR5.out.row.keep (Chg.of_drewN [] _ _) (by simp)
  have HR0 := hid hrow0
  clear hrow0
  go_loopw [11] (fun i wx => ∃ q : Nat, q ≤ n ∧ i = .int .i64 q ∧ Row wx 22 1 (.slice (some ⟨g, 0, none⟩) (n + 1) cap2) (some g) (n + 1) (((cs.take q).map prv ++ cs.drop q).map (Value.int .u64) ++ [.int .u64 77]) ∧ Chg [g] w5 wx) (fun i _ => n - (intOf i).toNat)
  case atStart => exact ⟨0, Nat.zero_le _, rfl, HR0.out, Chg.of_drewN _ _ _⟩
  case round =>
    obtain ⟨q, hq, rfl, hrow, hch⟩ := hrel
    by_cases hqk : q < n
    · have hqe : q < cs.length := by rw [HN.out]; exact hqk
      obtain ⟨g', hg', hgr', hcl, hfz⟩ := hrow.atk (by omega)
      simp only [Option.some.injEq] at hgr'
      subst hgr'
      have f0 := hcl q (by omega)
      rw [show (List.map (Value.int .u64) ((cs.take q).map prv ++ cs.drop q) ++ [Value.int .u64 77]).getD q undef = Value.int .u64 (cs[q]'hqe) from by
        simp only [List.getD]
        rw [List.getElem?_append_left (by simp; omega), List.getElem?_map, List.getElem?_append_right (by simp; omega)]
        have h5 : ((cs.take q).map prv).length = q := by simp; omega
        rw [h5, Nat.sub_self, List.drop_eq_getElem_cons hqe]
        rfl] at f0
      have hst := hrow.setk q (.int .u64 (prv (cs[q]'hqe)))
      rw [set_prv cs q hqe] at hst
      have hchs := hch.trans' (Chg.set1 g wr q (.int .u64 (prv (cs[q]'hqe))))
      have hnx : IntKind.u64.wrap (cs[q]'hqe - 1) = prv (cs[q]'hqe) := rfl
      obtain ⟨x, hx⟩ : ∃ x, cs[q]'hqe = x := ⟨_, rfl⟩
      obtain ⟨y, hy⟩ : ∃ y, prv (cs[q]'hqe) = y := ⟨_, rfl⟩
      rw [hy] at hst hchs hnx
      rw [hx] at f0 hnx
      have hxb := HX.out _ (List.getElem_mem hqe)
      rw [hx] at hxb
      have HST := hid (And.intro hst hchs)
      have HNX := hid hnx
      have z1 : (q : Int) < (n : Int) := by omega
      have z2 : (q : Int) < (n : Int) + 1 := by omega
      clear hg' hst hchs hx hy hcl hrow
      go_wp2_with fail
      go_roundw
      case rel => exact ⟨q + 1, by omega, by go_num, HST.out.1, HST.out.2⟩
      case measure => simp [intOf]; omega
    · obtain rfl : q = n := by omega
      have hrowF : Row wr 22 1 (.slice (some ⟨g, 0, none⟩) (q + 1) cap2) (some g) (q + 1) ((cs.map prv).map (Value.int .u64) ++ [.int .u64 77]) := by
        have := hrow
        rw [List.take_of_length_le (by rw [HN.out]; exact Nat.le_refl _), List.drop_of_length_le (by rw [HN.out]; exact Nat.le_refl _), List.append_nil] at this
        exact this
      have hvp2 := hrowF.viewPre (m := q) (cap := cap2) (by omega) (by have := HR5.out.hcap; omega) HR5.out.hmax
      rw [Nat.mul_one, List.take_left' (by rw [List.length_map, List.length_map, HN.out])] at hvp2
      have hnl : (cs.map prv).length = q := by rw [List.length_map, HN.out]
      have ha := pl.out.1 (cs.map prv) (some ⟨g, 0, none⟩) cap2 wr (by rw [hnl]; exact hvp2) (by rw [hnl]; omega)
      have hb := pl.out.2 (cs.map prv) (some ⟨g, 0, none⟩) cap2 wr (by rw [hnl]; exact hvp2)
      rw [hnl] at ha hb
      obtain ⟨L2, hL2⟩ : ∃ L, leqE E (cs.map prv) = L := ⟨_, rfl⟩
      rw [hL2] at ha hb
      have HA2 := hid ha
      have HB2 := hid hb
      have hfin : Chg [] w wr := HC5.out.1.trans hch (fun x hx => .inr (by have hx2 : x = g := (by simpa using hx); have := HC5.out.2; omega))
      have HFIN := hid hfin
      clear ha hb hnl hvp2 hrowF hrow hch hfin hL2
      go_wp2_with (first
        | (go_at_call 16; refine HA2.out.mono ?_; rintro e w' ⟨rfl, rfl⟩)
        | (go_at_call 30; refine HB2.out.mono ?_; rintro e w' ⟨rfl, rfl⟩)
        | (go_at_call 15; refine (HL.out _).mono ?_; rintro e w6 ⟨rfl, hc6⟩))
      go_ret
      exact ⟨rfl, HFIN.out.trans' hc6⟩
theorem reads_walk' (E : Int) (h0 : 0 ≤ E) (h1 : E < 18446744073709551616) (cs : List Int) (hx0 : ∀ x ∈ cs, 0 ≤ x) (hn : cs.length ≤ 1048576) {v : Value} (w : World) (hv : View w 1 v cs.length (cs.map (Value.int .u64))) (htab : Pow10 w) :
    Calls Tryd.prog 6 #[.int .u64 E, v] w fun e w' => e = .returned (.bool true) ∧ Chg [] w w' := by
  have h := hv
  obtain ⟨_, _, ao, cap, rfl, _⟩ := h
  exact reads_walk E h0 h1 cs hx0 hn w hv htab
end Go.Proofs.YtngpfoddeebbmaaDoor
