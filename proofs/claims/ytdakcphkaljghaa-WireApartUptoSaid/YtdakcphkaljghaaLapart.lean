/- The law WireApart: its walk. -/
import Derived.Test.YtdakcphkaljghaaLlaid
import Derived.Test.YtdakcphkaljghaaLonly
namespace Go.Proofs.Ytdakcphkaljghaa
open Go.RowKit Go.AB
set_option linter.unusedSectionVars false
set_option linter.unusedSimpArgs false

def Dj (a b : Option Nat) : Prop := ∀ g, a = some g → b ≠ some g
theorem Dj.symm {a b : Option Nat} (h : Dj a b) : Dj b a := fun g hg hb => h g hb hg
theorem Dj.step {w : World} {a a' b : Option Nat} (h : Dj a b) (hf : Fresh w a a') (hb : ∀ g, b = some g → g < w.heap.size) : Dj a' b := fun g hg e => by
  rcases hf g hg with h1 | h1
  · exact h g h1 e
  · have := hb g e; omega

/-- Two writers and two lists of bytes, each in memory of its own. -/
structure Four (w0 w : World) (bv bu : Nat) (rv : Option Nat) (lv : List UInt8) (aov : Option Addr) (capv : Nat) (ru : Option Nat) (lu : List UInt8) (aou : Option Addr) (capu : Nat)
    (r1 : Option Nat) (l1 : List UInt8) (ao1 : Option Addr) (cap1 : Nat) (r2 : Option Nat) (l2 : List UInt8) (ao2 : Option Addr) (cap2 : Nat) : Prop where
  v : Wr 27 5 w bv rv lv aov capv
  u : Wr 27 5 w bu ru lu aou capu
  one : Row w 5 1 (.slice ao1 l1.length cap1) r1 l1.length (l1.map B)
  two : Row w 5 1 (.slice ao2 l2.length cap2) r2 l2.length (l2.map B)
  chg : Chg [bv, bu] w0 w
  fv : Fresh w0 none rv
  fu : Fresh w0 none ru
  f1 : Fresh w0 none r1
  f2 : Fresh w0 none r2
  dvu : Dj rv ru
  dv1 : Dj rv r1
  dv2 : Dj rv r2
  du1 : Dj ru r1
  du2 : Dj ru r2
  d12 : Dj r1 r2
  ne : bv ≠ bu
  ltv : bv < w0.heap.size
  ltu : bu < w0.heap.size

section
variable {w0 w w' : World} {bv bu : Nat} {rv ru r1 r2 rn : Option Nat} {lv lu l1 l2 ln : List UInt8} {aov aou ao1 ao2 aon : Option Addr} {capv capu cap1 cap2 capn : Nat}
theorem fresh_ge {r : Option Nat} (h : Fresh w0 none r) : ∀ g, r = some g → w0.heap.size ≤ g := fun g hg => (h g hg).resolve_left (by simp)
theorem Four.step0 (h : Four w0 w bv bu rv lv aov capv ru lu aou capu r1 l1 ao1 cap1 r2 l2 ao2 cap2) (hc : Chg [] w w') : Four w0 w' bv bu rv lv aov capv ru lu aou capu r1 l1 ao1 cap1 r2 l2 ao2 cap2 :=
  ⟨h.v.keep hc (by simp) (by simp), h.u.keep hc (by simp) (by simp), h.one.keep hc (by simp), h.two.keep hc (by simp), h.chg.trans hc (by simp), h.fv, h.fu, h.f1, h.f2, h.dvu, h.dv1, h.dv2, h.du1, h.du2, h.d12, h.ne, h.ltv, h.ltu⟩
theorem Four.swap (h : Four w0 w bv bu rv lv aov capv ru lu aou capu r1 l1 ao1 cap1 r2 l2 ao2 cap2) : Four w0 w bu bv ru lu aou capu rv lv aov capv r2 l2 ao2 cap2 r1 l1 ao1 cap1 :=
  ⟨h.u, h.v, h.two, h.one, h.chg.mono (by intro x hx; simp at hx ⊢; omega), h.fu, h.fv, h.f2, h.f1, h.dvu.symm, h.du2, h.du1, h.dv2, h.dv1, h.d12.symm, h.ne.symm, h.ltu, h.ltv⟩
theorem Four.step_v (h : Four w0 w bv bu rv lv aov capv ru lu aou capu r1 l1 ao1 cap1 r2 l2 ao2 cap2) (hW : Wr 27 5 w' bv rn ln aon capn) (hc : Chg (bv :: rv.toList) w w') (hf : Fresh w rv rn) :
    Four w0 w' bv bu rn ln aon capn ru lu aou capu r1 l1 ao1 cap1 r2 l2 ao2 cap2 := by
  have gv := fresh_ge h.fv
  have hlt := h.ltv
  have hlu := h.ltu
  have key : ∀ {r : Option Nat}, Fresh w0 none r → Dj rv r → ∀ g, r = some g → g ∉ bv :: rv.toList := fun hr hd g hg hm => by
    have := fresh_ge hr g hg
    rcases List.mem_cons.1 hm with e | e
    · omega
    · exact hd g (by simpa using e) hg
  exact ⟨hW, h.u.keep hc (by
      intro hm
      rcases List.mem_cons.1 hm with e | e
      · exact h.ne e.symm
      · have := gv bu (by simpa using e); omega) (key h.fu h.dvu), h.one.keep hc (key h.f1 h.dv1), h.two.keep hc (key h.f2 h.dv2),
    h.chg.trans hc (fun x hx => by
      rcases List.mem_cons.1 hx with e | e
      · exact .inl (by simp [e])
      · exact .inr (gv x (by simpa using e))),
    h.fv.trans h.chg.size hf, h.fu, h.f1, h.f2, h.dvu.step hf h.u.row.lt, h.dv1.step hf h.one.lt, h.dv2.step hf h.two.lt, h.du1, h.du2, h.d12, h.ne, h.ltv, h.ltu⟩
theorem Four.step_1 (h : Four w0 w bv bu rv lv aov capv ru lu aou capu r1 l1 ao1 cap1 r2 l2 ao2 cap2) (hW : Row w' 5 1 (.slice aon ln.length capn) rn ln.length (ln.map B)) (hc : Chg r1.toList w w') (hf : Fresh w r1 rn) :
    Four w0 w' bv bu rv lv aov capv ru lu aou capu rn ln aon capn r2 l2 ao2 cap2 := by
  have g1 := fresh_ge h.f1
  have hlt := h.ltv
  have hlu := h.ltu
  have key : ∀ {r : Option Nat}, Dj r r1 → ∀ g, r = some g → g ∉ r1.toList := fun hd g hg hm => hd g hg (by simpa using hm)
  have keyb : ∀ b, b < w0.heap.size → b ∉ r1.toList := fun b hb hm => by have := g1 b (by simpa using hm); omega
  exact ⟨h.v.keep hc (keyb _ hlt) (key h.dv1), h.u.keep hc (keyb _ hlu) (key h.du1), hW, h.two.keep hc (key h.d12.symm),
    h.chg.trans hc (fun x hx => .inr (g1 x (by simpa using hx))),
    h.fv, h.fu, h.f1.trans h.chg.size hf, h.f2, h.dvu, (h.dv1.symm.step hf h.v.row.lt).symm, h.dv2, (h.du1.symm.step hf h.u.row.lt).symm, h.du2, h.d12.step hf h.two.lt, h.ne, h.ltv, h.ltu⟩
end

theorem rFixed1 {L : List UInt8} {k wh : Nat} (h : k < L.length) : rFixed 1 L ⟨k, wh, 0⟩ = (L[k].toNat, ⟨k + 1, wh, 0⟩) := by
  unfold rFixed
  have h2 : ¬ (L.length - k < 1) := by omega
  have h3 : (L.drop k).take 1 = [L[k]] := by rw [List.drop_eq_getElem_cons h]; rfl
  simp only [h3]
  simp [h2, leNat]
/-- An owned list's byte, where it stands, in whatever world has kept its block. -/
theorem row_byte {w : World} {ao : Option Addr} {cap : Nat} {r : Option Nat} {l : List UInt8} (h : Row w 5 1 (.slice ao l.length cap) r l.length (l.map B)) {k : Nat} (hk : k < l.length) :
    ∃ b off, ao = some ⟨b, off, none⟩ ∧ r = some b ∧ w.cell? ⟨b, off + k, none⟩ = some (.int .u8 (l[k].toNat : Nat)) := by
  have hb := h.blk
  obtain ⟨_, _, ao', cap', e, _, _, _, hc⟩ := h.view
  simp only [Value.slice.injEq, true_and] at e
  obtain ⟨rfl, rfl⟩ := e
  obtain ⟨b, off, rfl, hcell⟩ := hc (by omega)
  exact ⟨b, off, rfl, hb.symm, (hcell k (by omega)).trans (by simp [List.getD, hk, B])⟩

/-- What a round asks of the script, the step named anew. -/
theorem script_at {W : World} {v : Value} {al : List AddD} (h : VL W 4 (addR W) v al) (hn : (al.map addSz).sum ≤ 1048576) {ao : Option Addr} {cap : Nat} (hv : v = .slice ao al.length cap) {k : Nat} (hk : k < al.length) :
    ∃ (ak : AddD) (b off : Nat) (u : Value), ao = some ⟨b, off, none⟩ ∧ Hid (al.take (k + 1) = al.take k ++ [ak]) ∧ (∀ m ∈ ak.many, U64 m) ∧ (0 < ak.many.length → ∀ g, u.ownBlock = some g → g < W.heap.size) ∧ ak.many.length ≤ 1048576 ∧ ak.text.size ≤ 1048576 ∧
      (laidB ak).length ≤ 10485760 ∧ ∀ W', Below W.heap.size W W' →
      View W' 1 u ak.many.length (ak.many.map cU) ∧ W'.cell? ⟨b, off + k * 4, none⟩ = some (.int .i64 ak.kind) ∧ W'.cell? ⟨b, off + k * 4 + 1, none⟩ = some (.int .i64 ak.width) ∧ W'.cell? ⟨b, off + k * 4 + 2, none⟩ = some u ∧ W'.cell? ⟨b, off + k * 4 + 3, none⟩ = some (.string ak.text) := by
  obtain ⟨b, off, u, h1, h2, h3, h4⟩ := add_at h hv hk
  have hak : addSz al[k] ≤ 1048576 := Nat.le_trans (mem_sum_le addSz (List.getElem_mem hk)) hn
  have hl := laidB_len al[k] h3 (by unfold addSz at hak; omega)
  have hu := View.own_lt h2
  refine ⟨al[k], b, off, u, h1, hid (take_snoc al k hk), h3, fun h0 => hu (by omega), ?_, ?_, by omega, fun W' hb => ⟨h2.below hb, h4 W' hb⟩⟩
  · unfold addSz at hak; omega
  · unfold addSz at hak; omega
theorem script_len {W : World} {v : Value} {al : List AddD} (h : VL W 4 (addR W) v al) (hn : (al.map addSz).sum ≤ 1048576) (k : Nat) : ((al.take k).flatMap laidB).length ≤ 10485760 := by
  obtain ⟨ao, cap, hv⟩ : ∃ ao cap, v = .slice ao al.length cap := by obtain ⟨css, ⟨_, _, ao, cap, h, _⟩, _⟩ := h.ex; exact ⟨ao, cap, h⟩
  have hm : ∀ a ∈ al, (∀ m ∈ a.many, U64 m) ∧ a.text.size < 18446744073709551616 := fun a ha => by
    have h5 := Nat.le_trans (mem_sum_le addSz ha) hn
    obtain ⟨k, hk, rfl⟩ := List.mem_iff_getElem.1 ha
    obtain ⟨_, _, _, _, _, h, _⟩ := add_at h hv hk
    exact ⟨h, by unfold addSz at h5; omega⟩
  have h1 := laidAll_len (al.take k) (fun a ha => hm a (List.mem_of_mem_take ha))
  have h2 : ((al.take k).map addSz).sum ≤ (al.map addSz).sum := by
    conv => rhs; rw [← List.take_append_drop k al, List.map_append, List.sum_append]
    omega
  omega

set_option maxHeartbeats 4000000 in
set_option maxRecDepth 100000 in
theorem apart_walk (va vb : Value) (adds more : List AddD) (W : World) (hva : VL W 4 (addR W) va adds) (hvb : VL W 4 (addR W) vb more) (hn : (adds.map addSz).sum ≤ 1048576) (hm : (more.map addSz).sum ≤ 1048576) :
    Calls Try.prog 7 #[va, vb] W fun e W' => e = .returned (.bool true) ∧ Below W.heap.size W W' := by
  have hla : adds.length ≤ 1048576 := by
    have := sum_ge addSz adds (fun a => by unfold addSz; omega)
    omega
  have hlm : more.length ≤ 1048576 := by
    have := sum_ge addSz more (fun a => by unfold addSz; omega)
    omega
  obtain ⟨aoa, capa, hvs⟩ : ∃ ao cap, va = .slice ao adds.length cap := by obtain ⟨css, ⟨_, _, ao, cap, h, _⟩, _⟩ := hva.ex; exact ⟨ao, cap, h⟩
  obtain ⟨aob, capb, hvt⟩ : ∃ ao cap, vb = .slice ao more.length cap := by obtain ⟨css, ⟨_, _, ao, cap, h, _⟩, _⟩ := hvb.ex; exact ⟨ao, cap, h⟩
  have hta := script_len hva hn
  have htm := script_len hvb hm
  subst hvs hvt
  have hF0 : Four ((W.alloc (.cells #[.slice none 0 0] 27)).alloc (.cells #[.slice none 0 0] 27)) ((W.alloc (.cells #[.slice none 0 0] 27)).alloc (.cells #[.slice none 0 0] 27)) W.heap.size (W.heap.size + 1) none [] none 0 none [] none 0 none [] none 0 none [] none 0 := by
    have hW0 : Wr 27 5 (W.alloc (.cells #[.slice none 0 0] 27)) W.heap.size none [] none 0 := ⟨heap_alloc_new W _, Row.nil _ _ _, by simp⟩
    have hs : (W.alloc (.cells #[.slice none 0 0] 27)).heap.size = W.heap.size + 1 := by simp
    have hU0 : Wr 27 5 ((W.alloc (.cells #[.slice none 0 0] 27)).alloc (.cells #[.slice none 0 0] 27)) (W.alloc (.cells #[.slice none 0 0] 27)).heap.size none [] none 0 := ⟨heap_alloc_new _ _, Row.nil _ _ _, by simp⟩
    rw [hs] at hU0
    exact ⟨hW0.keep ((Chg.refl [] _).alloc _) (by simp) (by simp), hU0, Row.nil _ _ _, Row.nil _ _ _, Chg.refl _ _, Fresh.refl _ _, Fresh.refl _ _, Fresh.refl _ _, Fresh.refl _ _,
      fun g hg => by simp at hg, fun g hg => by simp at hg, fun g hg => by simp at hg, fun g hg => by simp at hg, fun g hg => by simp at hg, fun g hg => by simp at hg, by simp, by simp; omega, by simp⟩
  have hb0 : Below W.heap.size W ((W.alloc (.cells #[.slice none 0 0] 27)).alloc (.cells #[.slice none 0 0] 27)) := ((((Chg.refl [] W).alloc _).alloc _)).to_below
  go_enter Try.func7, Try.ntmps7
  go_wp2_with fail
  go_loopw [7, 8, 9] (fun x y i wr => ∃ k rv lv aov capv ru lu aou capu r1 l1 ao1 cap1 r2 l2 ao2 cap2,
      Four ((W.alloc (.cells #[.slice none 0 0] 27)).alloc (.cells #[.slice none 0 0] 27)) wr W.heap.size (W.heap.size + 1) rv lv aov capv ru lu aou capu r1 l1 ao1 cap1 r2 l2 ao2 cap2 ∧ i = .int .i64 (k : Nat) ∧ k ≤ adds.length + more.length ∧ x = .slice ao1 l1.length cap1 ∧ y = .slice ao2 l2.length cap2 ∧
      Hid (lv = (adds.take k).flatMap laidB) ∧ Hid (lu = (more.take k).flatMap laidB) ∧ Hid (l1 = lv) ∧ Hid (l2 = lu))
    (fun _ _ i _ => adds.length + more.length - (intOf i).toNat)
  case atStart => exact ⟨0, none, [], none, 0, none, [], none, 0, none, [], none, 0, none, [], none, 0, hF0, rfl, by omega, rfl, rfl, hid (by simp), hid (by simp), hid rfl, hid rfl⟩
  case round =>
    obtain ⟨k, rv, lv, aov, capv, ru, lu, aou, capu, r1, l1, ao1, cap1, r2, l2, ao2, cap2, hF, rfl, hk, rfl, rfl, HV, HU, H1, H2⟩ := hrel
    have blw : ∀ {w' rv lv aov capv ru lu aou capu r1 l1 ao1 cap1 r2 l2 ao2 cap2}, Four ((W.alloc (.cells #[.slice none 0 0] 27)).alloc (.cells #[.slice none 0 0] 27)) w' W.heap.size (W.heap.size + 1) rv lv aov capv ru lu aou capu r1 l1 ao1 cap1 r2 l2 ao2 cap2 → Below W.heap.size W w' :=
      fun hF => hb0.trans (hF.chg.below (by simp) hb0.size)
    have hlv : lv.length ≤ 10485760 := by rw [HV.out]; exact hta k
    have hlu : lu.length ≤ 10485760 := by rw [HU.out]; exact htm k
    have hl1 : l1.length ≤ 10485760 := by rw [H1.out]; exact hlv
    have hl2 : l2.length ≤ 10485760 := by rw [H2.out]; exact hlu
    have hbl := blw hF
    by_cases h1 : k < adds.length
    · obtain ⟨ak, ba, offa, u, rfl, HSN, hum, hown, hml, htl, hll, hcells⟩ := script_at hva hn rfl h1
      obtain ⟨hview, x0, x1, x2, x3⟩ := hcells wr hbl
      have hcall := lays_calls ak hum u wr W.heap.size rv lv aov capv hF.v (by omega) hview (fun h0 g hg => by have h5 := hown h0 g hg; exact ⟨by omega, fun e => by have := fresh_ge hF.fv g e; have := hb0.size; omega⟩) (by omega) (by omega)
      unfold addV at hcall
      have HC := hid hcall
      clear hcall
      go_wp2_with (first
        | (go_at_call 12; refine HC.out.mono ?_; rintro e wA ⟨rfl, lA, rA, aoA, capA, hWA, hcA, hfA, HLA⟩; have hF2 := hF.step_v hWA hcA hfA; obtain ⟨hview2, z0, z1, z2, z3⟩ := hcells wA (blw hF2); have HC2 := hid (laid_calls ak hview2 hum (by omega) (by omega)))
        | (go_at_call 13; refine HC2.out.mono ?_; rintro e wB ⟨lB, aoB, capB, rB, rfl, hrowB, hfB, hcB, HLB⟩; have hF3 := hF2.step0 hcB; have hlB : lB.length ≤ 10485760 := (by rw [HLB.out]; exact hll))
        | (at_builtin; refine wpList_app rfl _ _ 25 rfl elem_u8 rfl (hF3.one) rfl (hrowB.view) (B_one _) (by unfold maxLen; omega) (by omega) (fun ao' cap' r' w2 hr2 hc2 hf2 hnil2 => halt (fun X hX => ?_))))
      rw [hX.out]; clear hX
      clear hnil2
      have hF4 := hF3.step_1 (ln := l1 ++ lB) (by rw [List.map_append, List.length_append]; exact hr2) hc2 hf2
      clear hr2 hc2 hf2
      have HV4 : Hid (lA = (adds.take (k + 1)).flatMap laidB) := hid (by rw [HLA.out, HV.out, HSN.out, List.flatMap_append]; simp)
      have H14 : Hid (l1 ++ lB = lA) := hid (by rw [HLA.out, HLB.out, H1.out])
      by_cases h2 : k < more.length
      · obtain ⟨bk, bb, offb, ub, rfl, HSM, humb, hownb, hmlb, htlb, hllb, hcellsb⟩ := script_at hvb hm rfl h2
        obtain ⟨hviewb, y0, y1, y2, y3⟩ := hcellsb w2 (blw hF4)
        have hcallb := lays_calls bk humb ub w2 (W.heap.size + 1) ru lu aou capu hF4.u (by omega) hviewb (fun h0 g hg => by have h5 := hownb h0 g hg; exact ⟨by simp; omega, fun e => by have := fresh_ge hF4.fu g e; have := hb0.size; omega⟩) (by omega) (by omega)
        unfold addV at hcallb
        have HCB := hid hcallb
        clear hcallb
        go_wp2_with (first
          | (go_at_call 12; refine HCB.out.mono ?_; rintro e wC ⟨rfl, lC, rC, aoC, capC, hWC, hcC, hfC, HLC⟩; have hF5 := (hF4.swap.step_v hWC hcC hfC).swap; obtain ⟨hview5, v0, v1, v2, v3⟩ := hcellsb wC (blw hF5); have HC5 := hid (laid_calls bk hview5 humb (by omega) (by omega)))
          | (go_at_call 13; refine HC5.out.mono ?_; rintro e wD ⟨lD, aoD, capD, rD, rfl, hrowD, hfD, hcD, HLD⟩; have hF6 := hF5.step0 hcD; have hlD : lD.length ≤ 10485760 := (by rw [HLD.out]; exact hllb))
          | (at_builtin; refine wpList_app rfl _ _ 25 rfl elem_u8 rfl (hF6.two) rfl (hrowD.view) (B_one _) (by unfold maxLen; omega) (by omega) (fun ao' cap' r' w2 hr2 hc2 hf2 hnil2 => halt (fun X hX => ?_))))
        rw [hX.out]; clear hX
        clear hnil2
        have hF7 := (hF6.swap.step_1 (ln := l2 ++ lD) (by rw [List.map_append, List.length_append]; exact hr2) hc2 hf2).swap
        clear hr2 hc2 hf2
        have HU7 : Hid (lC = (more.take (k + 1)).flatMap laidB) := hid (by rw [HLC.out, HU.out, HSM.out, List.flatMap_append]; simp)
        have H27 : Hid (l2 ++ lD = lC) := hid (by rw [HLC.out, HLD.out, H2.out])
        go_wp2
        go_roundw
        case rel => exact ⟨k + 1, _, _, _, _, _, _, _, _, _, _, _, _, _, _, _, _, hF7, by go_num, by omega, (by rw [List.length_append]), (by rw [List.length_append]), HV4, HU7, H14, H27⟩
        case measure => simp [intOf]; omega
      · go_wp2
        go_roundw
        case rel => exact ⟨k + 1, _, _, _, _, _, _, _, _, _, _, _, _, _, _, _, _, hF4, by go_num, by omega, (by rw [List.length_append]), rfl, HV4, (hid (by rw [HU.out, List.take_of_length_le (by omega), List.take_of_length_le (by omega)])), H14, H2⟩
        case measure => simp [intOf]; omega
    · by_cases h2 : k < more.length
      · obtain ⟨bk, bb, offb, ub, rfl, HSM, humb, hownb, hmlb, htlb, hllb, hcellsb⟩ := script_at hvb hm rfl h2
        obtain ⟨hviewb, y0, y1, y2, y3⟩ := hcellsb wr (blw hF)
        have hcallb := lays_calls bk humb ub wr (W.heap.size + 1) ru lu aou capu hF.u (by omega) hviewb (fun h0 g hg => by have h5 := hownb h0 g hg; exact ⟨by simp; omega, fun e => by have := fresh_ge hF.fu g e; have := hb0.size; omega⟩) (by omega) (by omega)
        unfold addV at hcallb
        have HCB := hid hcallb
        clear hcallb
        go_wp2_with (first
          | (go_at_call 12; refine HCB.out.mono ?_; rintro e wC ⟨rfl, lC, rC, aoC, capC, hWC, hcC, hfC, HLC⟩; have hF5 := (hF.swap.step_v hWC hcC hfC).swap; obtain ⟨hview5, v0, v1, v2, v3⟩ := hcellsb wC (blw hF5); have HC5 := hid (laid_calls bk hview5 humb (by omega) (by omega)))
          | (go_at_call 13; refine HC5.out.mono ?_; rintro e wD ⟨lD, aoD, capD, rD, rfl, hrowD, hfD, hcD, HLD⟩; have hF6 := hF5.step0 hcD; have hlD : lD.length ≤ 10485760 := (by rw [HLD.out]; exact hllb))
          | (at_builtin; refine wpList_app rfl _ _ 25 rfl elem_u8 rfl (hF6.two) rfl (hrowD.view) (B_one _) (by unfold maxLen; omega) (by omega) (fun ao' cap' r' w2 hr2 hc2 hf2 hnil2 => halt (fun X hX => ?_))))
        rw [hX.out]; clear hX
        clear hnil2
        have hF7 := (hF6.swap.step_1 (ln := l2 ++ lD) (by rw [List.map_append, List.length_append]; exact hr2) hc2 hf2).swap
        clear hr2 hc2 hf2
        have HU7 : Hid (lC = (more.take (k + 1)).flatMap laidB) := hid (by rw [HLC.out, HU.out, HSM.out, List.flatMap_append]; simp)
        have H27 : Hid (l2 ++ lD = lC) := hid (by rw [HLC.out, HLD.out, H2.out])
        go_wp2
        go_roundw
        case rel => exact ⟨k + 1, _, _, _, _, _, _, _, _, _, _, _, _, _, _, _, _, hF7, by go_num, by omega, rfl, (by rw [List.length_append]), (hid (by rw [HV.out, List.take_of_length_le (by omega), List.take_of_length_le (by omega)])), HU7, H1, H27⟩
        case measure => simp [intOf]; omega
      · have hta' : adds.take k = adds := List.take_of_length_le (by omega)
        have htm' : more.take k = more := List.take_of_length_le (by omega)
        rw [hta'] at HV
        rw [htm'] at HU
        clear hta' htm' hF0
        go_wp2_with (first
          | (go_at_call 26; refine (flag_calls true _ _ _ _ _ _ hF.v (by omega)).mono ?_; rintro e wA ⟨rfl, lA, rA, aoA, capA, hWA, hcA, hfA, HLA⟩; have hF2 := hF.step_v hWA hcA hfA; have hF3 := fun o => hF2.step0 ((Chg.refl [] wA).alloc o))
          | (at_builtin; refine wpList_app rfl _ _ 25 rfl elem_u8 rfl ((hF3 _).one) rfl (View.one _ _ _) (by simp [Value.oneCell']) (by unfold maxLen; omega) (by omega) (fun ao' cap' r' w2 hr2 hc2 hf2 _ => halt (fun X hX => ?_))))
        rw [hX.out]; clear hX
        have hF4 := (hF3 _).step_1 (ln := l1 ++ [1]) (by rw [List.map_append, List.length_append]; exact hr2) hc2 hf2
        clear hr2 hc2 hf2 hF3
        have hA1 : lA = l1 ++ [1] := by rw [HLA.out, H1.out]; rfl
        subst hA1
        have hl1' : (l1 ++ [1]).length ≤ 10485761 := by simp; omega
        have e2 : l2 = lu := H2.out
        subst e2
        have hlen4 : (l1 ++ [1]).length ≤ 1099511627776 := by omega
        have hlen5 : l2.length ≤ 1099511627776 := by omega
        have HB4 := hid (bytes_calls _ _ _ _ _ _ hF4.v hlen4)
        go_wp2_with (go_at_call 16; refine HB4.out.mono ?_; rintro e w5 ⟨l5, ao5, cap5, r5, rfl, hr5, hf5, hc5, HL5⟩; refine halt (fun X hX => ?_))
        rw [hX.out]; clear hX
        have hF5 := hF4.step0 hc5
        have HN5 := hid (newReader_calls _ _ _ hr5.view (by rw [HL5.out]; exact hlen4))
        go_wp2_with (go_at_call 27; refine HN5.out.mono ?_; rintro e w6 ⟨br, Lr, aoR, capR, rfl, hR, hbr, hownr, hc6, HL6⟩; refine halt (fun X hX => ?_))
        rw [hX.out]; clear hX
        have hF6 := hF5.step0 hc6
        clear HB4 HN5
        have HB6 := hid (bytes_calls _ _ _ _ _ _ hF6.u hlen5)
        go_wp2_with (go_at_call 16; refine HB6.out.mono ?_; rintro e w7 ⟨l7, ao7, cap7, r7, rfl, hr7, hf7, hc7, HL7⟩; refine halt (fun X hX => ?_))
        rw [hX.out]; clear hX
        have hF7 := hF6.step0 hc7
        have HN7 := hid (newReader_calls _ _ _ hr7.view (by rw [HL7.out]; exact hlen5))
        go_wp2_with (go_at_call 27; refine HN7.out.mono ?_; rintro e w8 ⟨bs, Ls, aoS, capS, rfl, hS, hbs, howns, hc8, HL8⟩; refine halt (fun X hX => ?_))
        rw [hX.out]; clear hX
        have hF8 := hF7.step0 hc8
        clear HB6 HN7
        have hLr : Lr = l1 ++ [1] := HL6.out.trans HL5.out
        have hLs : Ls = l2 := HL8.out.trans HL7.out
        clear HL8 HL7 HL6 HL5
        subst hLs
        have hS8 := hS
        have hbrs : br < bs := by have := blk_lt hR.blk; have := hc7.size; omega
        have hR8 := (hR.keep hc7 (by simp) (by simp)).keep hc8 (by simp) (by simp)
        obtain ⟨N, hN⟩ : ∃ N, l1 ++ [1] = N := ⟨_, rfl⟩
        have hNl : l1.length + 1 = N.length := by rw [← hN]; simp
        rw [hN] at hF8 hLr
        subst hLr
        have h1b : ∀ g, r' = some g → g < br := fun g hg => by have := hF5.one.lt g hg; omega
        have h2b : ∀ g, r2 = some g → g < br := fun g hg => by have := hF5.two.lt g hg; omega
        have HNL := hid hNl
        clear hNl hN
        go_wp2_with fail
        go_loopw [12] (fun i wr => ∃ k, k ≤ Lr.length + Ls.length ∧ i = .int .i64 (k : Nat) ∧ Rd 81 wr br Lr aoR capR (min k Lr.length) 0 0 ∧ Rd 81 wr bs Ls aoS capS (min k Ls.length) 0 0 ∧ Chg [br, bs] w8 wr)
          (fun i _ => Lr.length + Ls.length - (intOf i).toNat)
        case atStart => exact ⟨0, by omega, rfl, by simpa using hR8, by simpa using hS8, Chg.refl _ _⟩
        case round =>
          obtain ⟨k, hk, rfl, hRk, hSk, hch⟩ := hrel
          have hl1k : Lr.length ≤ 10485761 := by rw [← HNL.out]; omega
          by_cases h1 : k < Lr.length
          · have m1 : min k Lr.length = k := by omega
            have q1 : k < l1.length + 1 := by rw [HNL.out]; exact h1
            obtain ⟨b1, o1, rfl, hrb1, c1⟩ := row_byte hF8.one h1
            have y1 : wr.cell? ⟨b1, o1 + k, none⟩ = some (.int .u8 (Lr[k].toNat : Nat)) := hch.cell c1 (by have := h1b b1 hrb1; simp; omega)
            have E1 := hid (rFixed1 (wh := 0) h1)
            rw [m1] at hRk
            by_cases h2 : k < Ls.length
            · have m2 : min k Ls.length = k := by omega
              obtain ⟨b2, o2, rfl, hrb2, c2⟩ := row_byte hF8.two h2
              have y2 : wr.cell? ⟨b2, o2 + k, none⟩ = some (.int .u8 (Ls[k].toNat : Nat)) := hch.cell c2 (by have := h2b b2 hrb2; simp; omega)
              have E2 := hid (rFixed1 (wh := 0) h2)
              rw [m2] at hSk
              have z0 : (0 : Int) ≤ (k : Int) := by omega
              have z1 : (k : Int) < ((l1.length + 1 : Nat) : Int) := by omega
              have z2 : (k : Int) < (Ls.length : Int) := by omega
              have hbns : ∀ g, (Value.slice aoS Ls.length capS).ownBlock = some g → g ≠ br := fun g hg => by have := (howns g hg).1; have := blk_lt hR.blk; have := hc7.size; omega
              have hbnr : ∀ g, (Value.slice aoR Lr.length capR).ownBlock = some g → g ≠ bs := fun g hg => by have := (hownr g hg).2; have := hc7.size; omega
              have hRd := hRk.keep (Chg.of_drewN [] wr 1) (by simp) (by simp)
              have hSd := hSk.keep (Chg.of_drewN [] wr 1) (by simp) (by simp)
              go_wp2_with fail
              go_region_held3 (fun w' => w'.cell? ⟨b1, o1 + k, none⟩ = some (.int .u8 (Lr[k].toNat : Nat)) ∧ w'.cell? ⟨b2, o2 + k, none⟩ = some (.int .u8 (Ls[k].toNat : Nat)))
                (first | exact ⟨y1, y2⟩ | exact ⟨hc2.cell y1 (by have := h1b b1 hrb1; simp; omega), hc2.cell y2 (by have := h2b b2 hrb2; simp; omega)⟩ | exact ⟨hc3.cell (hc2.cell y1 (by have := h1b b1 hrb1; simp; omega)) (by have := h1b b1 hrb1; simp; omega), hc3.cell (hc2.cell y2 (by have := h2b b2 hrb2; simp; omega)) (by have := h2b b2 hrb2; simp; omega)⟩)
                (first
                | (go_at_call 28; refine (take_u8_calls hS2 (by omega)).mono ?_; rw [E2.out]; rintro e w3 ⟨rfl, hS3, hc3⟩; have hR3 := hR2.keep hc3 (by simp; omega) (fun g hg => by simpa using hbnr g hg))
                | (go_at_call 28; refine (take_u8_calls hRd (by omega)).mono ?_; rw [E1.out]; rintro e w2 ⟨rfl, hR2, hc2⟩; have hS2 := hSd.keep hc2 (by simp; omega) (fun g hg => by simpa using hbns g hg)))
              go_wp2
              go_roundw
              case rel => exact ⟨k + 1, by omega, by go_num, (by rw [show min (k + 1) Lr.length = k + 1 from by omega]; exact hR3), (by rw [show min (k + 1) Ls.length = k + 1 from by omega]; exact hS3), hch.trans' ((Chg.of_drewN _ wr 1).trans' ((hc2.mono (by simp)).trans' (hc3.mono (by simp))))⟩
              case measure => simp [intOf]; omega
            · have m2 : min k Ls.length = Ls.length := by omega
              have z0 : (0 : Int) ≤ (k : Int) := by omega
              have gd2 : decide ((k : Int) < (Ls.length : Int)) = false := by simp; omega
              have z2 : (Ls.length : Int) ≤ (k : Int) := by omega
              have z1 : (k : Int) < ((l1.length + 1 : Nat) : Int) := by omega
              have hbns : ∀ g, (Value.slice aoS Ls.length capS).ownBlock = some g → g ≠ br := fun g hg => by have := (howns g hg).1; have := blk_lt hR.blk; have := hc7.size; omega
              have hRd := hRk.keep (Chg.of_drewN [] wr 1) (by simp) (by simp)
              have hSd := hSk.keep (Chg.of_drewN [] wr 1) (by simp) (by simp)
              go_wp2_with fail
              (refine wp_region_held_drew (S := (fun w' => w'.cell? ⟨b1, o1 + k, none⟩ = some (.int .u8 (Lr[k].toNat : Nat)))) (by kernel_rfl) (by exact y1) (fun hHeld => ?_); (refine wpAnyH_take (i := 0) (v := ?_) rfl (by kernel_rfl) (by kernel_rfl) (by kernel_rfl) (fun _ _ _ h => h) (Or.inl ⟨by rfl, ?_⟩) (by assumption) ?_; rotate_left 1; (focus (intro w hSw; (try dsimp only at hSw); go_simp; (try with_reducible rfl))); (try simp only [List.getElem_toArray, List.getElem_cons_zero, List.getElem_cons_succ, Act.put, List.setIfInBounds_toArray, List.set_cons_zero, List.set_cons_succ])); (refine wpAnyH_take (i := 1) (v := ?_) rfl (by kernel_rfl) (by kernel_rfl) (by kernel_rfl) (fun _ _ _ h => h) (Or.inl ⟨by rfl, ?_⟩) (by assumption) ?_; rotate_left 1; (focus (intro w hSw; (try dsimp only at hSw); go_simp; (try with_reducible rfl))); (try simp only [List.getElem_toArray, List.getElem_cons_zero, List.getElem_cons_succ, Act.put, List.setIfInBounds_toArray, List.set_cons_zero, List.set_cons_succ])); (refine wpAnyH_take (i := 2) (v := ?_) rfl (by kernel_rfl) (by kernel_rfl) (by kernel_rfl) (fun _ _ _ h => h) (Or.inl ⟨by rfl, ?_⟩) (by assumption) ?_; rotate_left 1; (focus (intro w hSw; (try dsimp only at hSw); go_simp; (try with_reducible rfl))); (try simp only [List.getElem_toArray, List.getElem_cons_zero, List.getElem_cons_succ, Act.put, List.setIfInBounds_toArray, List.set_cons_zero, List.set_cons_succ])); (refine wpAnyH_take (i := 3) (v := ?_) rfl (by kernel_rfl) (by kernel_rfl) (by kernel_rfl) (fun _ _ _ h => h) (Or.inl ⟨by rfl, ?_⟩) (by assumption) ?_; rotate_left 1; (focus (intro w hSw; (try dsimp only at hSw); go_simp; (try with_reducible rfl))); (try simp only [List.getElem_toArray, List.getElem_cons_zero, List.getElem_cons_succ, Act.put, List.setIfInBounds_toArray, List.set_cons_zero, List.set_cons_succ])); (refine wpAnyH_take (i := 4) (v := ?_) rfl (by kernel_rfl) (by kernel_rfl) (by kernel_rfl) (fun _ _ _ h => h) (Or.inl ⟨by rfl, ?_⟩) (by assumption) ?_; rotate_left 1; (focus (intro w hSw; (try dsimp only at hSw); go_simp; (try with_reducible rfl))); (try simp only [List.getElem_toArray, List.getElem_cons_zero, List.getElem_cons_succ, Act.put, List.setIfInBounds_toArray, List.set_cons_zero, List.set_cons_succ])); (refine wpAnyH_take (i := 5) (v := ?_) rfl (by kernel_rfl) (by kernel_rfl) (by kernel_rfl) (fun _ _ _ h => h) (Or.inl ⟨by rfl, ?_⟩) (by assumption) ?_; rotate_left 1; (focus (intro w hSw; (try dsimp only at hSw); go_simp; (try with_reducible rfl))); (try simp only [List.getElem_toArray, List.getElem_cons_zero, List.getElem_cons_succ, Act.put, List.setIfInBounds_toArray, List.set_cons_zero, List.set_cons_succ])); (refine wpAnyH_take (i := 7) (v := ?_) rfl (by kernel_rfl) (by kernel_rfl) (by kernel_rfl) (fun _ _ _ h => h) (Or.inl ⟨by rfl, ?_⟩) (by assumption) ?_; rotate_left 1; (focus (intro w hSw; (try dsimp only at hSw); go_simp; (try with_reducible rfl))); (try simp only [List.getElem_toArray, List.getElem_cons_zero, List.getElem_cons_succ, Act.put, List.setIfInBounds_toArray, List.set_cons_zero, List.set_cons_succ])); (refine wpAnyH_take (i := 8) (v := ?_) rfl (by kernel_rfl) (by kernel_rfl) (by kernel_rfl) (fun _ _ _ h => h) (Or.inl ⟨by rfl, ?_⟩) (by assumption) ?_; rotate_left 1; (focus (intro w hSw; (try dsimp only at hSw); go_simp; (try with_reducible rfl))); (try simp only [List.getElem_toArray, List.getElem_cons_zero, List.getElem_cons_succ, Act.put, List.setIfInBounds_toArray, List.set_cons_zero, List.set_cons_succ])); (refine wpAnyH_take (i := 9) (v := ?_) rfl (by kernel_rfl) (by kernel_rfl) (by kernel_rfl) (fun _ _ _ h => h) (Or.inl ⟨by rfl, ?_⟩) (by assumption) ?_; rotate_left 1; (focus (intro w hSw; (try dsimp only at hSw); go_simp; (try with_reducible rfl))); (try simp only [List.getElem_toArray, List.getElem_cons_zero, List.getElem_cons_succ, Act.put, List.setIfInBounds_toArray, List.set_cons_zero, List.set_cons_succ])); (refine wpAnyH_take (i := 10) (v := ?_) rfl (by kernel_rfl) (by kernel_rfl) (by kernel_rfl) (fun _ _ _ h => h) (Or.inl ⟨by rfl, ?_⟩) (by assumption) ?_; rotate_left 1; (focus (intro w hSw; (try dsimp only at hSw); go_simp; (try with_reducible rfl))); (try simp only [List.getElem_toArray, List.getElem_cons_zero, List.getElem_cons_succ, Act.put, List.setIfInBounds_toArray, List.set_cons_zero, List.set_cons_succ])); (refine wpAnyH_ready (rs := [6]) (by kernel_rfl) (by simp) ?_; refine AllReadyH.cons rfl (fun K hK => ?_) AllReadyH.nil; go_simp); (go_at_call 28; refine (take_u8_calls hRd (by omega)).mono ?_; rw [E1.out]; rintro e w2 ⟨rfl, hR2, hc2⟩; have hS2 := hSd.keep hc2 (by simp; omega) (fun g hg => by simpa using hbns g hg)); (refine hK.out _ _ (by exact hc2.cell y1 (by have := h1b b1 hrb1; simp; omega)) (fun hHeld => ?_); clear hK K; (try simp only [List.getElem_toArray, List.getElem_cons_zero, List.getElem_cons_succ, Act.put, List.setIfInBounds_toArray, List.set_cons_zero, List.set_cons_succ])); (refine wpAnyH_take (i := 11) (v := ?_) rfl (by kernel_rfl) (by kernel_rfl) (by kernel_rfl) (fun _ _ _ h => h) (Or.inl ⟨by rfl, ?_⟩) (by assumption) ?_; rotate_left 1; (focus (intro w hSw; (try dsimp only at hSw); go_simp; (try with_reducible rfl))); (try simp only [List.getElem_toArray, List.getElem_cons_zero, List.getElem_cons_succ, Act.put, List.setIfInBounds_toArray, List.set_cons_zero, List.set_cons_succ])); (refine wpAnyH_take (i := 12) (v := ?_) rfl (by kernel_rfl) (by kernel_rfl) (by kernel_rfl) (fun _ _ _ h => h) (Or.inl ⟨by rfl, ?_⟩) (by assumption) ?_; rotate_left 1; (focus (intro w hSw; (try dsimp only at hSw); go_simp; (try with_reducible rfl))); (try simp only [List.getElem_toArray, List.getElem_cons_zero, List.getElem_cons_succ, Act.put, List.setIfInBounds_toArray, List.set_cons_zero, List.set_cons_succ])); (refine wpAnyH_take (i := 13) (v := ?_) rfl (by kernel_rfl) (by kernel_rfl) (by kernel_rfl) (fun _ _ _ h => h) (Or.inl ⟨by rfl, ?_⟩) (by assumption) ?_; rotate_left 1; (focus (intro w hSw; (try dsimp only at hSw); go_simp; (try with_reducible rfl))); (try simp only [List.getElem_toArray, List.getElem_cons_zero, List.getElem_cons_succ, Act.put, List.setIfInBounds_toArray, List.set_cons_zero, List.set_cons_succ])); (refine wpAnyH_take (i := 14) (v := ?_) rfl (by kernel_rfl) (by kernel_rfl) (by kernel_rfl) (fun _ _ _ h => h) (Or.inl ⟨by rfl, ?_⟩) (by assumption) ?_; rotate_left 1; (focus (intro w hSw; (try dsimp only at hSw); go_simp; (try with_reducible rfl))); (try simp only [List.getElem_toArray, List.getElem_cons_zero, List.getElem_cons_succ, Act.put, List.setIfInBounds_toArray, List.set_cons_zero, List.set_cons_succ])); (refine wpAnyH_take (i := 15) (v := ?_) rfl (by kernel_rfl) (by kernel_rfl) (by kernel_rfl) (fun _ _ _ h => h) (Or.inl ⟨by rfl, ?_⟩) (by assumption) ?_; rotate_left 1; (focus (intro w hSw; (try dsimp only at hSw); go_simp; (try with_reducible rfl))); (try simp only [List.getElem_toArray, List.getElem_cons_zero, List.getElem_cons_succ, Act.put, List.setIfInBounds_toArray, List.set_cons_zero, List.set_cons_succ])); (refine wpAnyH_take (i := 16) (v := ?_) rfl (by kernel_rfl) (by kernel_rfl) (by kernel_rfl) (fun _ _ _ h => h) (Or.inl ⟨by rfl, ?_⟩) (by assumption) ?_; rotate_left 1; (focus (intro w hSw; (try dsimp only at hSw); go_simp; (try with_reducible rfl))); (try simp only [List.getElem_toArray, List.getElem_cons_zero, List.getElem_cons_succ, Act.put, List.setIfInBounds_toArray, List.set_cons_zero, List.set_cons_succ])); (refine wpAnyH_take (i := 17) (v := ?_) rfl (by kernel_rfl) (by kernel_rfl) (by kernel_rfl) (fun _ _ _ h => h) (Or.inl ⟨by rfl, ?_⟩) (by assumption) ?_; rotate_left 1; (focus (intro w hSw; (try dsimp only at hSw); go_simp; (try with_reducible rfl))); (try simp only [List.getElem_toArray, List.getElem_cons_zero, List.getElem_cons_succ, Act.put, List.setIfInBounds_toArray, List.set_cons_zero, List.set_cons_succ])); (refine wpAnyH_take (i := 18) (v := ?_) rfl (by kernel_rfl) (by kernel_rfl) (by kernel_rfl) (fun _ _ _ h => h) (Or.inl ⟨by rfl, ?_⟩) (by assumption) ?_; rotate_left 1; (focus (intro w hSw; (try dsimp only at hSw); go_simp; (try with_reducible rfl))); (try simp only [List.getElem_toArray, List.getElem_cons_zero, List.getElem_cons_succ, Act.put, List.setIfInBounds_toArray, List.set_cons_zero, List.set_cons_succ])); (refine wpAnyH_take (i := 19) (v := undef) rfl (by kernel_rfl) (by kernel_rfl) (by kernel_rfl) (fun _ _ _ h => h) (Or.inr ⟨by rfl, rfl⟩) (by assumption) ?_; (try simp only [List.getElem_toArray, List.getElem_cons_zero, List.getElem_cons_succ, Act.put, List.setIfInBounds_toArray, List.set_cons_zero, List.set_cons_succ])); (refine wpAnyH_take (i := 20) (v := undef) rfl (by kernel_rfl) (by kernel_rfl) (by kernel_rfl) (fun _ _ _ h => h) (Or.inr ⟨by rfl, rfl⟩) (by assumption) ?_; (try simp only [List.getElem_toArray, List.getElem_cons_zero, List.getElem_cons_succ, Act.put, List.setIfInBounds_toArray, List.set_cons_zero, List.set_cons_succ])); (refine wpAnyH_take (i := 21) (v := undef) rfl (by kernel_rfl) (by kernel_rfl) (by kernel_rfl) (fun _ _ _ h => h) (Or.inr ⟨by rfl, rfl⟩) (by assumption) ?_; (try simp only [List.getElem_toArray, List.getElem_cons_zero, List.getElem_cons_succ, Act.put, List.setIfInBounds_toArray, List.set_cons_zero, List.set_cons_succ])); (refine wpAnyH_take (i := 22) (v := undef) rfl (by kernel_rfl) (by kernel_rfl) (by kernel_rfl) (fun _ _ _ h => h) (Or.inr ⟨by rfl, rfl⟩) (by assumption) ?_; (try simp only [List.getElem_toArray, List.getElem_cons_zero, List.getElem_cons_succ, Act.put, List.setIfInBounds_toArray, List.set_cons_zero, List.set_cons_succ])); (refine wpAnyH_take (i := 23) (v := undef) rfl (by kernel_rfl) (by kernel_rfl) (by kernel_rfl) (fun _ _ _ h => h) (Or.inr ⟨by rfl, rfl⟩) (by assumption) ?_; (try simp only [List.getElem_toArray, List.getElem_cons_zero, List.getElem_cons_succ, Act.put, List.setIfInBounds_toArray, List.set_cons_zero, List.set_cons_succ])); (refine wpAnyH_take (i := 24) (v := undef) rfl (by kernel_rfl) (by kernel_rfl) (by kernel_rfl) (fun _ _ _ h => h) (Or.inr ⟨by rfl, rfl⟩) (by assumption) ?_; (try simp only [List.getElem_toArray, List.getElem_cons_zero, List.getElem_cons_succ, Act.put, List.setIfInBounds_toArray, List.set_cons_zero, List.set_cons_succ])); (refine wpAnyH_take (i := 25) (v := undef) rfl (by kernel_rfl) (by kernel_rfl) (by kernel_rfl) (fun _ _ _ h => h) (Or.inr ⟨by rfl, rfl⟩) (by assumption) ?_; (try simp only [List.getElem_toArray, List.getElem_cons_zero, List.getElem_cons_succ, Act.put, List.setIfInBounds_toArray, List.set_cons_zero, List.set_cons_succ])); (refine wpAnyH_take (i := 26) (v := ?_) rfl (by kernel_rfl) (by kernel_rfl) (by kernel_rfl) (fun _ _ _ h => h) (Or.inl ⟨by rfl, ?_⟩) (by assumption) ?_; rotate_left 1; (focus (intro w hSw; (try dsimp only at hSw); go_simp; (try with_reducible rfl))); (try simp only [List.getElem_toArray, List.getElem_cons_zero, List.getElem_cons_succ, Act.put, List.setIfInBounds_toArray, List.set_cons_zero, List.set_cons_succ])); (refine wpAnyH_take (i := 27) (v := ?_) rfl (by kernel_rfl) (by kernel_rfl) (by kernel_rfl) (fun _ _ _ h => h) (Or.inl ⟨by rfl, ?_⟩) (by assumption) ?_; rotate_left 1; (focus (intro w hSw; (try dsimp only at hSw); go_simp; (try with_reducible rfl))); (try simp only [List.getElem_toArray, List.getElem_cons_zero, List.getElem_cons_succ, Act.put, List.setIfInBounds_toArray, List.set_cons_zero, List.set_cons_succ])); refine wpAnyH_done (by kernel_rfl) ?_ _)
              go_wp2
              go_roundw
              case rel => exact ⟨k + 1, by omega, by go_num, (by rw [show min (k + 1) Lr.length = k + 1 from by omega]; exact hR2), (by rw [show min (k + 1) Ls.length = min k Ls.length from by omega]; exact hS2), hch.trans' ((Chg.of_drewN _ wr 1).trans' (hc2.mono (by simp)))⟩
              case measure => simp [intOf]; omega
          · have m1 : min k Lr.length = Lr.length := by omega
            rw [m1] at hRk
            have q1 : ¬ (k < l1.length + 1) := by rw [HNL.out]; exact h1
            have g1 : decide ((k : Int) < ((l1.length + 1 : Nat) : Int)) = false := by simp; omega
            have g1b : decide ((k : Int) < (l1.length : Int) + 1) = false := by simp; omega
            have g1c : ((l1.length : Int) + 1) ≤ (k : Int) := by omega
            by_cases h2 : k < Ls.length
            · have m2 : min k Ls.length = k := by omega
              obtain ⟨b2, o2, rfl, hrb2, c2⟩ := row_byte hF8.two h2
              have y2 : wr.cell? ⟨b2, o2 + k, none⟩ = some (.int .u8 (Ls[k].toNat : Nat)) := hch.cell c2 (by have := h2b b2 hrb2; simp; omega)
              have E2 := hid (rFixed1 (wh := 0) h2)
              rw [m2] at hSk
              have z0 : (0 : Int) ≤ (k : Int) := by omega
              have z2 : (k : Int) < (Ls.length : Int) := by omega
              have hbnr : ∀ g, (Value.slice aoR Lr.length capR).ownBlock = some g → g ≠ bs := fun g hg => by have := (hownr g hg).2; have := hc7.size; omega
              have hRd := hRk.keep (Chg.of_drewN [] wr 1) (by simp) (by simp)
              have hSd := hSk.keep (Chg.of_drewN [] wr 1) (by simp) (by simp)
              go_wp2_with fail
              (refine wp_region_held_drew (S := (fun w' => w'.cell? ⟨b2, o2 + k, none⟩ = some (.int .u8 (Ls[k].toNat : Nat)))) (by kernel_rfl) (by exact y2) (fun hHeld => ?_); (refine wpAnyH_take (i := 0) (v := ?_) rfl (by kernel_rfl) (by kernel_rfl) (by kernel_rfl) (fun _ _ _ h => h) (Or.inl ⟨by rfl, ?_⟩) (by assumption) ?_; rotate_left 1; (focus (intro w hSw; (try dsimp only at hSw); go_simp; (try with_reducible rfl))); (try simp only [List.getElem_toArray, List.getElem_cons_zero, List.getElem_cons_succ, Act.put, List.setIfInBounds_toArray, List.set_cons_zero, List.set_cons_succ])); (refine wpAnyH_take (i := 1) (v := ?_) rfl (by kernel_rfl) (by kernel_rfl) (by kernel_rfl) (fun _ _ _ h => h) (Or.inl ⟨by rfl, ?_⟩) (by assumption) ?_; rotate_left 1; (focus (intro w hSw; (try dsimp only at hSw); go_simp; (try with_reducible rfl))); (try simp only [List.getElem_toArray, List.getElem_cons_zero, List.getElem_cons_succ, Act.put, List.setIfInBounds_toArray, List.set_cons_zero, List.set_cons_succ])); (refine wpAnyH_take (i := 2) (v := ?_) rfl (by kernel_rfl) (by kernel_rfl) (by kernel_rfl) (fun _ _ _ h => h) (Or.inl ⟨by rfl, ?_⟩) (by assumption) ?_; rotate_left 1; (focus (intro w hSw; (try dsimp only at hSw); go_simp; (try with_reducible rfl))); (try simp only [List.getElem_toArray, List.getElem_cons_zero, List.getElem_cons_succ, Act.put, List.setIfInBounds_toArray, List.set_cons_zero, List.set_cons_succ])); (refine wpAnyH_take (i := 3) (v := ?_) rfl (by kernel_rfl) (by kernel_rfl) (by kernel_rfl) (fun _ _ _ h => h) (Or.inl ⟨by rfl, ?_⟩) (by assumption) ?_; rotate_left 1; (focus (intro w hSw; (try dsimp only at hSw); go_simp; (try with_reducible rfl))); (try simp only [List.getElem_toArray, List.getElem_cons_zero, List.getElem_cons_succ, Act.put, List.setIfInBounds_toArray, List.set_cons_zero, List.set_cons_succ])); (refine wpAnyH_take (i := 4) (v := ?_) rfl (by kernel_rfl) (by kernel_rfl) (by kernel_rfl) (fun _ _ _ h => h) (Or.inl ⟨by rfl, ?_⟩) (by assumption) ?_; rotate_left 1; (focus (intro w hSw; (try dsimp only at hSw); go_simp; (try with_reducible rfl))); (try simp only [List.getElem_toArray, List.getElem_cons_zero, List.getElem_cons_succ, Act.put, List.setIfInBounds_toArray, List.set_cons_zero, List.set_cons_succ])); (refine wpAnyH_take (i := 5) (v := undef) rfl (by kernel_rfl) (by kernel_rfl) (by kernel_rfl) (fun _ _ _ h => h) (Or.inr ⟨by rfl, rfl⟩) (by assumption) ?_; (try simp only [List.getElem_toArray, List.getElem_cons_zero, List.getElem_cons_succ, Act.put, List.setIfInBounds_toArray, List.set_cons_zero, List.set_cons_succ])); (refine wpAnyH_take (i := 6) (v := undef) rfl (by kernel_rfl) (by kernel_rfl) (by kernel_rfl) (fun _ _ _ h => h) (Or.inr ⟨by rfl, rfl⟩) (by assumption) ?_; (try simp only [List.getElem_toArray, List.getElem_cons_zero, List.getElem_cons_succ, Act.put, List.setIfInBounds_toArray, List.set_cons_zero, List.set_cons_succ])); (refine wpAnyH_take (i := 7) (v := undef) rfl (by kernel_rfl) (by kernel_rfl) (by kernel_rfl) (fun _ _ _ h => h) (Or.inr ⟨by rfl, rfl⟩) (by assumption) ?_; (try simp only [List.getElem_toArray, List.getElem_cons_zero, List.getElem_cons_succ, Act.put, List.setIfInBounds_toArray, List.set_cons_zero, List.set_cons_succ])); (refine wpAnyH_take (i := 8) (v := undef) rfl (by kernel_rfl) (by kernel_rfl) (by kernel_rfl) (fun _ _ _ h => h) (Or.inr ⟨by rfl, rfl⟩) (by assumption) ?_; (try simp only [List.getElem_toArray, List.getElem_cons_zero, List.getElem_cons_succ, Act.put, List.setIfInBounds_toArray, List.set_cons_zero, List.set_cons_succ])); (refine wpAnyH_take (i := 9) (v := undef) rfl (by kernel_rfl) (by kernel_rfl) (by kernel_rfl) (fun _ _ _ h => h) (Or.inr ⟨by rfl, rfl⟩) (by assumption) ?_; (try simp only [List.getElem_toArray, List.getElem_cons_zero, List.getElem_cons_succ, Act.put, List.setIfInBounds_toArray, List.set_cons_zero, List.set_cons_succ])); (refine wpAnyH_take (i := 10) (v := undef) rfl (by kernel_rfl) (by kernel_rfl) (by kernel_rfl) (fun _ _ _ h => h) (Or.inr ⟨by rfl, rfl⟩) (by assumption) ?_; (try simp only [List.getElem_toArray, List.getElem_cons_zero, List.getElem_cons_succ, Act.put, List.setIfInBounds_toArray, List.set_cons_zero, List.set_cons_succ])); (refine wpAnyH_take (i := 11) (v := undef) rfl (by kernel_rfl) (by kernel_rfl) (by kernel_rfl) (fun _ _ _ h => h) (Or.inr ⟨by rfl, rfl⟩) (by assumption) ?_; (try simp only [List.getElem_toArray, List.getElem_cons_zero, List.getElem_cons_succ, Act.put, List.setIfInBounds_toArray, List.set_cons_zero, List.set_cons_succ])); (refine wpAnyH_take (i := 12) (v := ?_) rfl (by kernel_rfl) (by kernel_rfl) (by kernel_rfl) (fun _ _ _ h => h) (Or.inl ⟨by rfl, ?_⟩) (by assumption) ?_; rotate_left 1; (focus (intro w hSw; (try dsimp only at hSw); go_simp; (try with_reducible rfl))); (try simp only [List.getElem_toArray, List.getElem_cons_zero, List.getElem_cons_succ, Act.put, List.setIfInBounds_toArray, List.set_cons_zero, List.set_cons_succ])); (refine wpAnyH_take (i := 13) (v := ?_) rfl (by kernel_rfl) (by kernel_rfl) (by kernel_rfl) (fun _ _ _ h => h) (Or.inl ⟨by rfl, ?_⟩) (by assumption) ?_; rotate_left 1; (focus (intro w hSw; (try dsimp only at hSw); go_simp; (try with_reducible rfl))); (try simp only [List.getElem_toArray, List.getElem_cons_zero, List.getElem_cons_succ, Act.put, List.setIfInBounds_toArray, List.set_cons_zero, List.set_cons_succ])); (refine wpAnyH_take (i := 14) (v := ?_) rfl (by kernel_rfl) (by kernel_rfl) (by kernel_rfl) (fun _ _ _ h => h) (Or.inl ⟨by rfl, ?_⟩) (by assumption) ?_; rotate_left 1; (focus (intro w hSw; (try dsimp only at hSw); go_simp; (try with_reducible rfl))); (try simp only [List.getElem_toArray, List.getElem_cons_zero, List.getElem_cons_succ, Act.put, List.setIfInBounds_toArray, List.set_cons_zero, List.set_cons_succ])); (refine wpAnyH_take (i := 15) (v := ?_) rfl (by kernel_rfl) (by kernel_rfl) (by kernel_rfl) (fun _ _ _ h => h) (Or.inl ⟨by rfl, ?_⟩) (by assumption) ?_; rotate_left 1; (focus (intro w hSw; (try dsimp only at hSw); go_simp; (try with_reducible rfl))); (try simp only [List.getElem_toArray, List.getElem_cons_zero, List.getElem_cons_succ, Act.put, List.setIfInBounds_toArray, List.set_cons_zero, List.set_cons_succ])); (refine wpAnyH_take (i := 16) (v := ?_) rfl (by kernel_rfl) (by kernel_rfl) (by kernel_rfl) (fun _ _ _ h => h) (Or.inl ⟨by rfl, ?_⟩) (by assumption) ?_; rotate_left 1; (focus (intro w hSw; (try dsimp only at hSw); go_simp; (try with_reducible rfl))); (try simp only [List.getElem_toArray, List.getElem_cons_zero, List.getElem_cons_succ, Act.put, List.setIfInBounds_toArray, List.set_cons_zero, List.set_cons_succ])); (refine wpAnyH_take (i := 17) (v := ?_) rfl (by kernel_rfl) (by kernel_rfl) (by kernel_rfl) (fun _ _ _ h => h) (Or.inl ⟨by rfl, ?_⟩) (by assumption) ?_; rotate_left 1; (focus (intro w hSw; (try dsimp only at hSw); go_simp; (try with_reducible rfl))); (try simp only [List.getElem_toArray, List.getElem_cons_zero, List.getElem_cons_succ, Act.put, List.setIfInBounds_toArray, List.set_cons_zero, List.set_cons_succ])); (refine wpAnyH_take (i := 18) (v := ?_) rfl (by kernel_rfl) (by kernel_rfl) (by kernel_rfl) (fun _ _ _ h => h) (Or.inl ⟨by rfl, ?_⟩) (by assumption) ?_; rotate_left 1; (focus (intro w hSw; (try dsimp only at hSw); go_simp; (try with_reducible rfl))); (try simp only [List.getElem_toArray, List.getElem_cons_zero, List.getElem_cons_succ, Act.put, List.setIfInBounds_toArray, List.set_cons_zero, List.set_cons_succ])); (refine wpAnyH_take (i := 19) (v := ?_) rfl (by kernel_rfl) (by kernel_rfl) (by kernel_rfl) (fun _ _ _ h => h) (Or.inl ⟨by rfl, ?_⟩) (by assumption) ?_; rotate_left 1; (focus (intro w hSw; (try dsimp only at hSw); go_simp; (try with_reducible rfl))); (try simp only [List.getElem_toArray, List.getElem_cons_zero, List.getElem_cons_succ, Act.put, List.setIfInBounds_toArray, List.set_cons_zero, List.set_cons_succ])); (refine wpAnyH_take (i := 21) (v := ?_) rfl (by kernel_rfl) (by kernel_rfl) (by kernel_rfl) (fun _ _ _ h => h) (Or.inl ⟨by rfl, ?_⟩) (by assumption) ?_; rotate_left 1; (focus (intro w hSw; (try dsimp only at hSw); go_simp; (try with_reducible rfl))); (try simp only [List.getElem_toArray, List.getElem_cons_zero, List.getElem_cons_succ, Act.put, List.setIfInBounds_toArray, List.set_cons_zero, List.set_cons_succ])); (refine wpAnyH_take (i := 22) (v := ?_) rfl (by kernel_rfl) (by kernel_rfl) (by kernel_rfl) (fun _ _ _ h => h) (Or.inl ⟨by rfl, ?_⟩) (by assumption) ?_; rotate_left 1; (focus (intro w hSw; (try dsimp only at hSw); go_simp; (try with_reducible rfl))); (try simp only [List.getElem_toArray, List.getElem_cons_zero, List.getElem_cons_succ, Act.put, List.setIfInBounds_toArray, List.set_cons_zero, List.set_cons_succ])); (refine wpAnyH_take (i := 23) (v := ?_) rfl (by kernel_rfl) (by kernel_rfl) (by kernel_rfl) (fun _ _ _ h => h) (Or.inl ⟨by rfl, ?_⟩) (by assumption) ?_; rotate_left 1; (focus (intro w hSw; (try dsimp only at hSw); go_simp; (try with_reducible rfl))); (try simp only [List.getElem_toArray, List.getElem_cons_zero, List.getElem_cons_succ, Act.put, List.setIfInBounds_toArray, List.set_cons_zero, List.set_cons_succ])); (refine wpAnyH_take (i := 24) (v := ?_) rfl (by kernel_rfl) (by kernel_rfl) (by kernel_rfl) (fun _ _ _ h => h) (Or.inl ⟨by rfl, ?_⟩) (by assumption) ?_; rotate_left 1; (focus (intro w hSw; (try dsimp only at hSw); go_simp; (try with_reducible rfl))); (try simp only [List.getElem_toArray, List.getElem_cons_zero, List.getElem_cons_succ, Act.put, List.setIfInBounds_toArray, List.set_cons_zero, List.set_cons_succ])); (refine wpAnyH_ready (rs := [20]) (by kernel_rfl) (by simp) ?_; refine AllReadyH.cons rfl (fun K hK => ?_) AllReadyH.nil; go_simp); (go_at_call 28; refine (take_u8_calls hSd (by omega)).mono ?_; rw [E2.out]; rintro e w3 ⟨rfl, hS3, hc3⟩; have hR3 := hRd.keep hc3 (by simp; omega) (fun g hg => by simpa using hbnr g hg)); (refine hK.out _ _ (by exact hc3.cell y2 (by have := h2b b2 hrb2; simp; omega)) (fun hHeld => ?_); clear hK K; (try simp only [List.getElem_toArray, List.getElem_cons_zero, List.getElem_cons_succ, Act.put, List.setIfInBounds_toArray, List.set_cons_zero, List.set_cons_succ])); (refine wpAnyH_take (i := 25) (v := ?_) rfl (by kernel_rfl) (by kernel_rfl) (by kernel_rfl) (fun _ _ _ h => h) (Or.inl ⟨by rfl, ?_⟩) (by assumption) ?_; rotate_left 1; (focus (intro w hSw; (try dsimp only at hSw); go_simp; (try with_reducible rfl))); (try simp only [List.getElem_toArray, List.getElem_cons_zero, List.getElem_cons_succ, Act.put, List.setIfInBounds_toArray, List.set_cons_zero, List.set_cons_succ])); (refine wpAnyH_take (i := 26) (v := ?_) rfl (by kernel_rfl) (by kernel_rfl) (by kernel_rfl) (fun _ _ _ h => h) (Or.inl ⟨by rfl, ?_⟩) (by assumption) ?_; rotate_left 1; (focus (intro w hSw; (try dsimp only at hSw); go_simp; (try with_reducible rfl))); (try simp only [List.getElem_toArray, List.getElem_cons_zero, List.getElem_cons_succ, Act.put, List.setIfInBounds_toArray, List.set_cons_zero, List.set_cons_succ])); (refine wpAnyH_take (i := 27) (v := ?_) rfl (by kernel_rfl) (by kernel_rfl) (by kernel_rfl) (fun _ _ _ h => h) (Or.inl ⟨by rfl, ?_⟩) (by assumption) ?_; rotate_left 1; (focus (intro w hSw; (try dsimp only at hSw); go_simp; (try with_reducible rfl))); (try simp only [List.getElem_toArray, List.getElem_cons_zero, List.getElem_cons_succ, Act.put, List.setIfInBounds_toArray, List.set_cons_zero, List.set_cons_succ])); refine wpAnyH_done (by kernel_rfl) ?_ _)
              go_wp2
              go_roundw
              case rel => exact ⟨k + 1, by omega, by go_num, (by rw [show min (k + 1) Lr.length = Lr.length from by omega]; exact hR3), (by rw [show min (k + 1) Ls.length = k + 1 from by omega]; exact hS3), hch.trans' ((Chg.of_drewN _ wr 1).trans' (hc3.mono (by simp)))⟩
              case measure => simp [intOf]; omega
            · have m2 : min k Ls.length = Ls.length := by omega
              rw [m2] at hSk
              have eR : rEnd Lr ⟨Lr.length, 0, 0⟩ = 0 := by simp [rEnd]
              have eS : rEnd Ls ⟨Ls.length, 0, 0⟩ = 0 := by simp [rEnd]
              have hfin : Below W.heap.size W wr := by
                have h8 : Below W.heap.size W w8 := hb0.trans (hF8.chg.below (by simp) hb0.size)
                exact h8.trans (hch.below (by intro x hx; simp at hx; have := hF5.chg.size; have := hb0.size; omega) h8.size)
              have HRE := hid eR
              have HSE := hid eS
              clear eR eS
              go_wp2_with (first
                | (go_at_call 29; refine (end_calls hS1).mono ?_; rw [HSE.out]; rintro e w2 ⟨rfl, n2, rfl⟩)
                | (go_at_call 29; refine (end_calls hRk).mono ?_; rw [HRE.out]; rintro e w1 ⟨rfl, n1, rfl⟩; have hS1 := hSk.keep (Chg.of_drewN [] wr n1) (by simp) (by simp)))
              go_ret
              exact ⟨rfl, below_drewN hfin _⟩
end Go.Proofs.Ytdakcphkaljghaa
