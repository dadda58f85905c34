/- The law CodeBodies: its walk. -/
import Derived.Test.YtbikekgljabalaaYf
namespace Go.Proofs.Ytbikekgljabalaa
open Go.RowKit Go.AB
set_option linter.unusedSimpArgs false
set_option linter.unusedVariables false
set_option linter.unusedSectionVars false

def nilP : PrgD := ⟨[], [], [], [], []⟩
/-- What both answer of a body in a right frame. -/
def bodD (k : UInt8) (body : List UInt8) : Nat × PrgD := if k ≠ 1 then (100, nilP) else match dBody body with
  | some x => (0, x)
  | none => (101, nilP)
def DecAny (w : World) (d : Nat × PrgD) (e : Ending) (w' : World) : Prop :=
  ∃ (a0 a1 a2 a3 a4 : Option Addr) (n0 n1 n2 n3 n4 k0 k1 k2 k3 k4 : Nat), e = .returned (.tuple #[.agg #[.slice a0 n0 k0, .slice a1 n1 k1, .slice a2 n2 k2, .slice a3 n3 k3, .slice a4 n4 k4], .int .i64 d.1]) ∧ PrgV w' (.agg #[.slice a0 n0 k0, .slice a1 n1 k1, .slice a2 n2 k2, .slice a3 n3 k3, .slice a4 n4 k4]) d.2 ∧ Chg [] w w'
theorem prgV_nil (w : World) : PrgV w (.agg #[.slice none 0 0, .slice none 0 0, .slice none 0 0, .slice none 0 0, .slice none 0 0]) nilP :=
  ⟨_, _, _, _, _, [], rfl, (Row.nil w 0 2).view, (Row.nil w 0 2).view, (Row.nil w 0 1).view, (Row.nil w 0 2).view, (Row.nil w 0 3).view, rfl, fun x hx => by cases hx⟩
theorem small_nil : SmallP nilP := by
  constructor
  all_goals simp [nilP]
theorem bodD_ok (k : UInt8) {body : List UInt8} (hl : body.length ≤ 16777216) : SmallP (bodD k body).2 ∧ (k = 1 ∨ (bodD k body).1 = 100) := by
  unfold bodD
  by_cases hk : k = 1
  · rw [if_neg (by simpa using hk)]
    refine ⟨?_, .inl hk⟩
    rcases h : dBody body with _ | x
    · exact small_nil
    · exact small_plain ((dBody_iff (L := body) (by omega) x).1 h).1
  · rw [if_pos hk]
    exact ⟨small_nil, .inr rfl⟩
section
variable {w : World}
theorem q_dec_any (v : Value) (k : UInt8) (L body : List UInt8) (hv : Bytes w v L) (hl : L.length ≤ 16777216) (ho : openB L = (k, body, 0)) (hbl : body.length ≤ 16777216) :
    Calls Try.prog 20 #[v] w (DecAny w (bodD k body)) := by
  unfold bodD
  by_cases hk : k = 1
  · subst hk
    rw [if_neg (by simp)]
    refine (q_decode_one v L hv hl ho hbl).mono fun e w' h => ?_
    rcases h with ⟨h1, h2, h3⟩ | ⟨x, a0, a1, a2, a3, a4, n0, n1, n2, n3, n4, k0, k1, k2, k3, k4, h1, h2, h3, h4⟩
    · rw [h1]
      exact ⟨none, none, none, none, none, 0, 0, 0, 0, 0, 0, 0, 0, 0, 0, h2, prgV_nil w', h3⟩
    · rw [h1]
      exact ⟨a0, a1, a2, a3, a4, n0, n1, n2, n3, n4, k0, k1, k2, k3, k4, h2, h3, h4⟩
  · rw [if_pos hk]
    refine (q_decode_kind v L hv hl ho hk).mono fun e w' h => ?_
    exact ⟨none, none, none, none, none, 0, 0, 0, 0, 0, 0, 0, 0, 0, 0, h.1, prgV_nil w', h.2⟩
theorem c_dec_any (v : Value) (k : UInt8) (L body : List UInt8) (hv : Bytes w v L) (hl : L.length ≤ 16777216) (ho : openB L = (k, body, 0)) (hbl : body.length ≤ 16777216) :
    Calls Try.prog 18 #[v] w (DecAny w (bodD k body)) := by
  refine (decode_calls v L w hv hl).mono fun e w' h => ?_
  unfold decB at h
  rw [ho] at h
  unfold bodD
  by_cases hk : k = 1
  · subst hk
    rw [if_neg (by simp)]
    rw [if_neg (by simp), if_neg (by simp)] at h
    simp only at h
    rcases hb : dBody body with _ | x
    · rw [hb] at h
      rcases h with ⟨c, h1, h2, h3, h4⟩ | ⟨p, v2, h1, _⟩
      · simp only [Prod.mk.injEq, and_true] at h1
        subst h1
        exact ⟨none, none, none, none, none, 0, 0, 0, 0, 0, 0, 0, 0, 0, 0, h3, prgV_nil w', h4⟩
      · simp at h1
    · rw [hb] at h
      rcases h with ⟨c, h1, _⟩ | ⟨p, v2, h1, h2, h3, h4⟩
      · simp at h1
      · simp only [Prod.mk.injEq, Option.some.injEq, true_and] at h1
        subst h1
        obtain ⟨a0, a1, a2, a3, a4, k0, k1, k2, k3, k4, rfl⟩ := prgV_shape h3
        exact ⟨a0, a1, a2, a3, a4, _, _, _, _, _, k0, k1, k2, k3, k4, h2, h3, h4⟩
  · rw [if_pos hk]
    rw [if_neg (by simp), if_pos (by simpa using hk)] at h
    rcases h with ⟨c, h1, h2, h3, h4⟩ | ⟨p, v2, h1, _⟩
    · simp only [Prod.mk.injEq, and_true] at h1
      subst h1
      exact ⟨none, none, none, none, none, 0, 0, 0, 0, 0, 0, 0, 0, 0, 0, h3, prgV_nil w', h4⟩
    · simp at h1
set_option maxHeartbeats 8000000 in
set_option maxRecDepth 100000 in
theorem bodies_walk (k : UInt8) (body : List UInt8) (hl : body.length ≤ 1048576) {v : Value} (w : World) (hv : Bytes w v body) :
    Calls Try.prog 6 #[.int .u8 k.toNat, v] w fun e w' => e = .returned (.bool true) ∧ Chg [] w w' := by
  obtain ⟨hs, hkc⟩ := bodD_ok k (body := body) (by omega)
  have hfl := frameB_length k body
  have hop := openB_of_frame k body (by omega)
  have hfr := q_frame_calls k v body w hv (by omega)
  obtain ⟨L, hL⟩ : ∃ L, frameB k body = L := ⟨_, rfl⟩
  rw [hL] at hfl hop hfr
  have hLl : L.length ≤ 16777216 := by omega
  have HD1 := hid fun (u : World) (vb : Value) (hb : Bytes u vb L) => q_dec_any vb k L body hb hLl hop (by omega)
  have HD2 := hid fun (u : World) (vb : Value) (hb : Bytes u vb L) => c_dec_any vb k L body hb hLl hop (by omega)
  obtain ⟨c, x, hcx⟩ : ∃ c x, bodD k body = (c, x) := ⟨_, _, rfl⟩
  rw [hcx] at HD1 HD2 hs hkc
  simp only at hs hkc
  unfold DecAny at HD1 HD2
  simp only at HD1 HD2
  have hkk : ((k.toNat : Int) = 1) ∨ ((c : Int) = 100) := hkc.imp (fun h => by rw [h]; rfl) (fun h => by rw [h]; rfl)
  obtain ⟨ci, hci⟩ : ∃ z : Int, (c : Int) = z := ⟨_, rfl⟩
  obtain ⟨kn, hkn⟩ : ∃ z : Int, (k.toNat : Int) = z := ⟨_, rfl⟩
  rw [hci] at HD1 HD2 hkk
  rw [hkn] at hfr hkk ⊢
  have HFR := hid hfr
  have HS := hid hs
  have HKK := hid hkk
  have hcs : (ci == ci) = true := by simp
  clear hL hfl hop hfr hLl hcx hs hkc hci hkn hkk hv
  have ckn : (kn == 1) = true ∨ ((kn == 1) = false ∧ ci = 100) := by
    rcases HKK.out with h | h
    · exact .inl (by simp [h])
    · by_cases hk : kn = 1
      · exact .inl (by simp [hk])
      · exact .inr ⟨by simp [hk], h⟩
  rcases ckn with z1 | ⟨z1, rfl⟩
  all_goals
    clear HKK
    go_enter Try.func6, Try.ntmps6
    go_wp2_with (first
      | (go_at_call 19; (with_reducible refine (HFR.out).mono ?_); rintro e w1 ⟨l1, ao, cap, r, rfl, hr1, hf1, hc1, HL1⟩; have hby1 : ∀ u, Chg [] w1 u → Bytes u (.slice ao l1.length cap) L := (fun u hu => by have h := View.keep hr1.view hu (by simp); rw [← HL1.out]; exact h); have HBY := hid hby1; clear hby1 hr1 hf1)
      | (go_at_call 20; (with_reducible refine (HD1.out _ _ (HBY.out _ (Chg.refl _ _))).mono ?_); rintro e w2 ⟨a0, a1, a2, a3, a4, n0, n1, n2, n3, n4, k0, k1, k2, k3, k4, rfl, hv2, hc2⟩; have hc2a := hc2.alloc (.cells #[.slice a0 n0 k0, .slice a1 n1 k1, .slice a2 n2 k2, .slice a3 n3 k3, .slice a4 n4 k4] 28); have HV2 := hid (hv2.keep ((Chg.refl [] _).alloc (.cells #[.slice a0 n0 k0, .slice a1 n1 k1, .slice a2 n2 k2, .slice a3 n3 k3, .slice a4 n4 k4] 28))); have hb2 := hid (heap_alloc_new w2 (.cells #[.slice a0 n0 k0, .slice a1 n1 k1, .slice a2 n2 k2, .slice a3 n3 k3, .slice a4 n4 k4] 28)); clear hv2)
      | (go_at_call 18; (with_reducible refine (HD2.out _ _ (HBY.out _ hc2a)).mono ?_); rintro e w3 ⟨d0, d1, d2, d3, d4, t0, t1, t2, t3, t4, j0, j1, j2, j3, j4, rfl, hv3, hc3⟩; refine halt (fun X hX => ?_)))
    rw [hX.out]; clear hX
    have hx := blk_alloc_old (hc3.heap hb2.out (by simp)) (.cells #[.slice d0 t0 j0, .slice d1 t1 j1, .slice d2 t2 j2, .slice d3 t3 j3, .slice d4 t4 j4] 28)
    have hy := heap_alloc_new w3 (.cells #[.slice d0 t0 j0, .slice d1 t1 j1, .slice d2 t2 j2, .slice d3 t3 j3, .slice d4 t4 j4] 28)
    have hVA := (HV2.out.keep hc3).keep ((Chg.refl [] w3).alloc (.cells #[.slice d0 t0 j0, .slice d1 t1 j1, .slice d2 t2 j2, .slice d3 t3 j3, .slice d4 t4 j4] 28))
    have hVD := hv3.keep ((Chg.refl [] w3).alloc (.cells #[.slice d0 t0 j0, .slice d1 t1 j1, .slice d2 t2 j2, .slice d3 t3 j3, .slice d4 t4 j4] 28))
    have hC3 := ((hc1.trans' hc2a).trans' hc3).alloc (.cells #[.slice d0 t0 j0, .slice d1 t1 j1, .slice d2 t2 j2, .slice d3 t3 j3, .slice d4 t4 j4] 28)
    go_upto_region 6 with fail
    obtain ⟨wE, hwE⟩ : ∃ y : World, w3.alloc (.cells #[.slice d0 t0 j0, .slice d1 t1 j1, .slice d2 t2 j2, .slice d3 t3 j3, .slice d4 t4 j4] 28) = y := ⟨_, rfl⟩
    rw [hwE] at hx hy hVA hVD hC3 ⊢
    obtain ⟨xb, hxb⟩ : ∃ y, w3.heap.size = y := ⟨_, rfl⟩
    rw [hxb] at hy ⊢
    obtain ⟨xa, hxa⟩ : ∃ y, w2.heap.size = y := ⟨_, rfl⟩
    rw [hxa] at hx ⊢
    have HVA := hid hVA
    have HVD := hid hVD
    have HC3 := hid hC3
    clear hwE hxb hxa hVA hVD hC3 hc3 hc2a hc1 hc2 hv3 HV2 hb2 HL1 HBY HD1 HD2 HFR
    have x0 := (blk_cell hx 0).trans (rfl : _ = some (Value.slice a0 n0 k0))
    have y0 := (blk_cell hy 0).trans (rfl : _ = some (Value.slice d0 t0 j0))
    have x1 := (blk_cell hx 1).trans (rfl : _ = some (Value.slice a1 n1 k1))
    have y1 := (blk_cell hy 1).trans (rfl : _ = some (Value.slice d1 t1 j1))
    have x2 := (blk_cell hx 2).trans (rfl : _ = some (Value.slice a2 n2 k2))
    have y2 := (blk_cell hy 2).trans (rfl : _ = some (Value.slice d2 t2 j2))
    have x3 := (blk_cell hx 3).trans (rfl : _ = some (Value.slice a3 n3 k3))
    have y3 := (blk_cell hy 3).trans (rfl : _ = some (Value.slice d3 t3 j3))
    have x4 := (blk_cell hx 4).trans (rfl : _ = some (Value.slice a4 n4 k4))
    have y4 := (blk_cell hy 4).trans (rfl : _ = some (Value.slice d4 t4 j4))
    clear hx hy
    go_wp2_with (first
      | (go_at_call 21; (with_reducible refine (r_same_self x HS.out _ HVD.out HVA.out).mono ?_); rintro e w5 ⟨rfl, hc5⟩)
      | (go_at_call 16; (with_reducible refine (known_calls _).mono ?_); rintro e w6 ⟨rfl, hc6⟩))
    go_ret
    exact ⟨rfl, (HC3.out.trans' hc5).trans' hc6⟩
end
theorem bodies_walk' (y : Int) (hy : (Lit.int .u8 y).wf = true) (l : List UInt8) (hl : l.length ≤ 1048576) {v : Value} (w : World) (hv : Bytes w v l) :
    Calls Try.prog 6 #[.int .u8 y, v] w fun e w' => e = .returned (.bool true) ∧ Chg [] w w' := by
  have hx : 0 ≤ y ∧ y ≤ 255 := by simpa [Lit.wf, IntKind.min, IntKind.max, IntKind.signed, IntKind.bits] using hy
  obtain ⟨b, rfl⟩ : ∃ b : UInt8, y = (b.toNat : Nat) := ⟨UInt8.ofNat y.toNat, by simp; omega⟩
  exact bodies_walk b l hl w hv
end Go.Proofs.Ytbikekgljabalaa
