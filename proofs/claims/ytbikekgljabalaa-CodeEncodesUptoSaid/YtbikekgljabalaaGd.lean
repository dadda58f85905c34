/- Walks of the code layer: is a program plain? -/
import Derived.Test.YtbikekgljabalaaGc
namespace Go.AB
/-- The check of threads, going on from a sum. -/
def chkT : Nat → List ThrD → Bool
  | _, [] => true
  | s, t :: r => thrB t && (decide (s + t.code.length ≤ 262144) && chkT (s + t.code.length) r)
theorem codeSum_go (l : List ThrD) : ∀ s : Nat, l.foldl (fun s t => s + t.code.length) s = s + codeSum l := by
  unfold codeSum
  induction l with
  | nil => intro s; simp
  | cons t r ih => intro s; rw [List.foldl_cons, List.foldl_cons, ih, ih (0 + t.code.length)]; omega
theorem codeSum_cons (t : ThrD) (l : List ThrD) : codeSum (t :: l) = t.code.length + codeSum l := by
  show List.foldl _ _ _ = _
  rw [List.foldl_cons, codeSum_go]; omega
theorem chkT_eq : ∀ (l : List ThrD) (s : Nat), s ≤ 262144 → chkT s l = (l.all thrB && decide (s + codeSum l ≤ 262144))
  | [], s, h => by
    have e : codeSum [] = 0 := rfl
    rw [e]
    simp [chkT, h]
  | t :: r, s, h => by
    rw [codeSum_cons, List.all_cons]
    show (thrB t && (decide (s + t.code.length ≤ 262144) && chkT (s + t.code.length) r)) = _
    by_cases h1 : s + t.code.length ≤ 262144
    · rw [chkT_eq r _ h1, decide_eq_true h1, Bool.true_and, Bool.and_assoc, show s + t.code.length + codeSum r = s + (t.code.length + codeSum r) from by omega]
    · rw [decide_eq_false h1, decide_eq_false (by omega)]
      simp
theorem prgB_chk (p : PrgD) : prgB p = (varsB p.vars && varsB p.vols && locksB p.locks && varsB p.bars && decide (p.thrs.length ≤ 65535) && chkT 0 p.thrs) := by
  unfold prgB
  rw [chkT_eq p.thrs 0 (by omega), Nat.zero_add]
/-- The check of instructions and their places. -/
def chkI : List InsD → List PlcD → Bool
  | x :: xs, p :: ps => insB x && plcB p && chkI xs ps
  | _, _ => true
theorem chkI_eq : ∀ (xs : List InsD) (ps : List PlcD), ps.length = xs.length → chkI xs ps = (xs.all insB && ps.all plcB)
  | [], [], _ => rfl
  | x :: xs, p :: ps, h => by
    rw [List.all_cons, List.all_cons]
    show (insB x && plcB p && chkI xs ps) = _
    rw [chkI_eq xs ps (by simpa using h)]
    cases insB x <;> cases plcB p <;> simp
  | [], _ :: _, h => by simp at h
  | _ :: _, [], h => by simp at h
theorem thrB_chk (t : ThrD) : thrB t = (decide (t.name.size ≤ 24) && decide (t.code.length ≤ 4096) && decide (t.places.length = t.code.length) && chkI t.code t.places) := by
  unfold thrB
  by_cases h : t.places.length = t.code.length
  · rw [chkI_eq _ _ h]
  · rw [decide_eq_false h]; simp
theorem any_long {α : Type} (l : List α) (f : α → ByteArray) (h : l.length ≤ 4096) : (decide (l.length ≤ 4096) && l.all fun v => decide ((f v).size ≤ 24)) = !(l.any fun v => Go.Proofs.Ytbikekgljabalaa.longB (f v)) := by
  rw [decide_eq_true h, Bool.true_and, List.not_any_eq_all_not]
  congr 1
  funext v
  unfold Go.Proofs.Ytbikekgljabalaa.longB
  rw [Bool.eq_iff_iff]
  simp
end Go.AB
namespace Go.Proofs.Ytbikekgljabalaa
open Go.RowKit Go.AB
set_option linter.unusedSimpArgs false
set_option linter.unusedVariables false

/-- What sizes a program has. -/
structure SmallP (p : PrgD) : Prop where
  vars : p.vars.length ≤ 1048576
  vols : p.vols.length ≤ 1048576
  locks : p.locks.length ≤ 1048576
  bars : p.bars.length ≤ 1048576
  thrs : p.thrs.length ≤ 1048576
  nvars : ∀ x ∈ p.vars, x.name.size ≤ 1048576
  nvols : ∀ x ∈ p.vols, x.name.size ≤ 1048576
  nlocks : ∀ x ∈ p.locks, x.size ≤ 1048576
  nbars : ∀ x ∈ p.bars, x.name.size ≤ 1048576
  nthrs : ∀ t ∈ p.thrs, t.name.size ≤ 1048576 ∧ t.code.length ≤ 1048576 ∧ t.places.length ≤ 1048576
theorem bad_big {p : PrgD} (h : 4096 < p.vars.length ∨ 4096 < p.vols.length ∨ 4096 < p.locks.length ∨ 4096 < p.bars.length ∨ 65535 < p.thrs.length) : prgB p = false := by
  unfold prgB varsB locksB
  rcases h with h | h | h | h | h
  · rw [decide_eq_false (show ¬ p.vars.length ≤ 4096 by omega)]; simp
  · rw [decide_eq_false (show ¬ p.vols.length ≤ 4096 by omega)]; simp
  · rw [decide_eq_false (show ¬ p.locks.length ≤ 4096 by omega)]; simp
  · rw [decide_eq_false (show ¬ p.bars.length ≤ 4096 by omega)]; simp
  · rw [decide_eq_false (show ¬ p.thrs.length ≤ 65535 by omega)]; simp

set_option maxRecDepth 100000 in
theorem long_same (s : ByteArray) (w : World) : Calls Try.prog 27 #[.string s] w fun e w' => e = .returned (.bool (longB s)) ∧ w = w' := by
  go_enter Try.func27, Try.ntmps27
  go_wp2
  go_ret
  exact ⟨ret_b (by unfold longB; rw [Bool.eq_iff_iff]; simp; omega), rfl⟩
theorem run_max_int4 {P : Program} (w : World) (ts : Array TypeId) (t : TypeId) (k k' k'' k3 : IntKind) (x y z u : Int) : ∃ M : Int, (Builtin.max_ ts t #[.int k x, .int k' y, .int k'' z, .int k3 u]).run P w = .ok (.int k M) w ∧ M = max (max (max x y) z) u := by
  refine ⟨(if u > (if z > (if y > x then y else x) then z else (if y > x then y else x)) then u else (if z > (if y > x then y else x) then z else (if y > x then y else x))), ?_, ?_⟩
  · simp [Builtin.max_, Builtin.max2]
  · omega
theorem run_max4 (x y z u : Int) : ∃ M : Int, (∀ w : World, (Builtin.max_ #[3, 3, 3, 3] 3 #[.int .i64 x, .int .i64 y, .int .i64 z, .int .i64 u]).run Try.prog w = .ok (.int .i64 M) w) ∧ M = max (max (max x y) z) u := by
  obtain ⟨M, _, hM⟩ := run_max_int4 (P := Try.prog) (World.holding Try.prog default ⟨#[], #[], []⟩) #[] 0 .i64 .i64 .i64 .i64 x y z u
  refine ⟨M, fun w => ?_, hM⟩
  obtain ⟨M', h1, h2⟩ := run_max_int4 (P := Try.prog) w #[3, 3, 3, 3] 3 .i64 .i64 .i64 .i64 x y z u
  rw [h1, hM, h2]
set_option maxHeartbeats 8000000 in
set_option maxRecDepth 100000 in
theorem plain_calls (p : PrgD) (hs : SmallP p) {v : Value} (w : World) (hv : PrgV w v p) :
    Calls Try.prog 12 #[v] w fun e w' => e = .returned (.bool (prgB p)) ∧ Chg [] w w' := by
  obtain ⟨a, b, c, d, e, ts, rfl, h1, h2, h3, h4, h5, h6, h7⟩ := hv
  have htl : ts.length = p.thrs.length := by rw [← h6, List.length_map]
  obtain ⟨a1, c1, rfl, _⟩ := h1.len
  obtain ⟨a2, c2, rfl, _⟩ := h2.len
  obtain ⟨a3, c3, rfl, _⟩ := h3.len
  obtain ⟨a4, c4, rfl, _⟩ := h4.len
  obtain ⟨a5, c5, rfl, _⟩ := h5.len
  obtain ⟨M, hmx, hM⟩ := run_max4 (p.vars.length : Int) (p.vols.length : Int) (p.locks.length : Int) (p.bars.length : Int)
  have HH5 := hid h5
  rw [htl] at h5 ⊢
  have q1 := hid fun u (hu : Chg [] w u) => contains_var p.vars hs.nvars hs.vars u (h1.keep hu)
  have q2 := hid fun u (hu : Chg [] w u) => contains_var p.vols hs.nvols hs.vols u (h2.keep hu)
  have q3 := hid fun u (hu : Chg [] w u) => contains_str p.locks hs.nlocks hs.locks u (h3.keep hu)
  have q4 := hid fun u (hu : Chg [] w u) => contains_bar p.bars hs.nbars hs.bars u (h4.keep hu)
  have eq1 := fun h => any_long p.vars VarD.name h
  have eq2 := fun h => any_long p.vols VarD.name h
  have eq3 := fun h => any_long p.locks id h
  have eq4 := fun h => any_long p.bars VarD.name h
  have hP := prgB_chk p
  unfold varsB locksB at hP
  obtain ⟨n1, hn1⟩ : ∃ n, p.vars.length = n := ⟨_, rfl⟩
  obtain ⟨n2, hn2⟩ : ∃ n, p.vols.length = n := ⟨_, rfl⟩
  obtain ⟨n3, hn3⟩ : ∃ n, p.locks.length = n := ⟨_, rfl⟩
  obtain ⟨n4, hn4⟩ : ∃ n, p.bars.length = n := ⟨_, rfl⟩
  obtain ⟨n5, hn5⟩ : ∃ n, p.thrs.length = n := ⟨_, rfl⟩
  have hbigf := fun h => bad_big (p := p) h
  have sv := hs.vars
  have so := hs.vols
  have sl := hs.locks
  have sb := hs.bars
  have st := hs.thrs
  rw [hn1] at q1 hmx hM hP eq1 hbigf sv ⊢
  rw [hn2] at q2 hmx hM hP eq2 hbigf so ⊢
  rw [hn3] at q3 hmx hM hP eq3 hbigf sl ⊢
  rw [hn4] at q4 hmx hM hP eq4 hbigf sb ⊢
  rw [hn5] at hP hbigf st ⊢
  have HTL : Hid (ts.length = n5) := hid (htl.trans hn5)
  have HT := hid (And.intro h6 (And.intro h7 hs.nthrs))
  clear h1 h2 h3 h4 h5 h6 h7 hn1 hn2 hn3 hn4 hn5 htl hs
  by_cases hbig : 4096 < n1 ∨ 4096 < n2 ∨ 4096 < n3 ∨ 4096 < n4 ∨ 65535 < n5
  · have HB := hid (hbigf hbig)
    by_cases hm : 4096 < M
    · clear hbig hbigf hM hP eq1 eq2 eq3 eq4
      go_enter Try.func12, Try.ntmps12
      go_wp2
      go_ret
      exact ⟨by rw [HB.out]; rfl, (Chg.refl _ _).alloc _⟩
    · have z1 : M ≤ 4096 := by omega
      have z2 : (65535 : Int) < (n5 : Int) := by omega
      clear hbig hbigf hM hP eq1 eq2 eq3 eq4
      go_enter Try.func12, Try.ntmps12
      go_wp2
      go_ret
      exact ⟨by rw [HB.out]; rfl, (Chg.refl _ _).alloc _⟩
  have z1 : M ≤ 4096 := by omega
  have z2 : (n5 : Int) ≤ 65535 := by omega
  have e1 := eq1 (by omega)
  have e2 := eq2 (by omega)
  have e3 := eq3 (by omega)
  have e4 := eq4 (by omega)
  simp only [id] at e3
  rw [e1, e2, e3, e4, decide_eq_true (show n5 ≤ 65535 by omega)] at hP
  obtain ⟨b1, hb1⟩ : ∃ b, (p.vars.any fun x => longB x.name) = b := ⟨_, rfl⟩
  obtain ⟨b2, hb2⟩ : ∃ b, (p.vols.any fun x => longB x.name) = b := ⟨_, rfl⟩
  obtain ⟨b3, hb3⟩ : ∃ b, (p.locks.any fun x => longB x) = b := ⟨_, rfl⟩
  obtain ⟨b4, hb4⟩ : ∃ b, (p.bars.any fun x => longB x.name) = b := ⟨_, rfl⟩
  rw [hb1] at q1 hP
  rw [hb2] at q2 hP
  rw [hb3] at q3 hP
  rw [hb4] at q4 hP
  have HP := hid hP
  obtain ⟨T, hT⟩ : ∃ x, p.thrs = x := ⟨_, rfl⟩
  rw [hT] at HP HT
  obtain ⟨R, hR⟩ : ∃ x, prgB p = x := ⟨_, rfl⟩
  rw [hR] at HP ⊢
  clear hP hbig hbigf e1 e2 e3 e4 eq1 eq2 eq3 eq4 hM hb1 hb2 hb3 hb4 hT hR
  have box : ∀ u, Chg [] (w.alloc (.cells #[.slice a1 n1 c1, .slice a2 n2 c2, .slice a3 n3 c3, .slice a4 n4 c4, .slice a5 n5 c5] 28)) u → u.cell? ⟨w.heap.size, 0, none⟩ = some (.slice a1 n1 c1) ∧ u.cell? ⟨w.heap.size, 1, none⟩ = some (.slice a2 n2 c2) ∧ u.cell? ⟨w.heap.size, 2, none⟩ = some (.slice a3 n3 c3) ∧ u.cell? ⟨w.heap.size, 3, none⟩ = some (.slice a4 n4 c4) ∧ u.cell? ⟨w.heap.size, 4, none⟩ = some (.slice a5 n5 c5) := fun u hu =>
    ⟨hu.cell (by simp) (by simp), hu.cell (by simp) (by simp), hu.cell (by simp) (by simp), hu.cell (by simp) (by simp), hu.cell (by simp) (by simp)⟩
  have BOX := hid box
  clear box
  cases b1
  case true =>
    go_enter Try.func12, Try.ntmps12
    go_wp2_with (first
      | (go_at_call 28; (with_reducible refine (q1.out _ ((Chg.refl _ _).alloc _)).mono ?_); rintro e w1 ⟨rfl, hc1⟩; have H1 := hid hc1; clear hc1; obtain ⟨k0, k1, k2, k3, k4⟩ := BOX.out _ H1.out))
    go_ret
    exact ⟨by rw [HP.out]; rfl, ((Chg.refl _ _).alloc _).trans' H1.out⟩
  cases b2
  case true =>
    go_enter Try.func12, Try.ntmps12
    go_wp2_with (first
      | (go_at_call 28; (with_reducible refine (q1.out _ ((Chg.refl _ _).alloc _)).mono ?_); rintro e w1 ⟨rfl, hc1⟩; have H1 := hid hc1; clear hc1; obtain ⟨k0, k1, k2, k3, k4⟩ := BOX.out _ H1.out)
      | (go_at_call 28; (with_reducible refine (q2.out _ (((Chg.refl _ _).alloc _).trans' H1.out)).mono ?_); rintro e w2 ⟨rfl, hc2⟩; have H2 := hid (H1.out.trans' hc2); clear hc2 k0 k1 k2 k3 k4; obtain ⟨k0, k1, k2, k3, k4⟩ := BOX.out _ H2.out))
    go_ret
    exact ⟨by rw [HP.out]; rfl, ((Chg.refl _ _).alloc _).trans' H2.out⟩
  cases b3
  case true =>
    go_enter Try.func12, Try.ntmps12
    go_wp2_with (first
      | (go_at_call 28; (with_reducible refine (q1.out _ ((Chg.refl _ _).alloc _)).mono ?_); rintro e w1 ⟨rfl, hc1⟩; have H1 := hid hc1; clear hc1; obtain ⟨k0, k1, k2, k3, k4⟩ := BOX.out _ H1.out)
      | (go_at_call 28; (with_reducible refine (q2.out _ (((Chg.refl _ _).alloc _).trans' H1.out)).mono ?_); rintro e w2 ⟨rfl, hc2⟩; have H2 := hid (H1.out.trans' hc2); clear hc2 k0 k1 k2 k3 k4; obtain ⟨k0, k1, k2, k3, k4⟩ := BOX.out _ H2.out)
      | (go_at_call 29; (with_reducible refine (q3.out _ (((Chg.refl _ _).alloc _).trans' H2.out)).mono ?_); rintro e w3 ⟨rfl, hc3⟩; have H3 := hid (H2.out.trans' hc3); clear hc3 k0 k1 k2 k3 k4; obtain ⟨k0, k1, k2, k3, k4⟩ := BOX.out _ H3.out))
    go_ret
    exact ⟨by rw [HP.out]; rfl, ((Chg.refl _ _).alloc _).trans' H3.out⟩
  cases b4
  case true =>
    go_enter Try.func12, Try.ntmps12
    go_wp2_with (first
      | (go_at_call 28; (with_reducible refine (q1.out _ ((Chg.refl _ _).alloc _)).mono ?_); rintro e w1 ⟨rfl, hc1⟩; have H1 := hid hc1; clear hc1; obtain ⟨k0, k1, k2, k3, k4⟩ := BOX.out _ H1.out)
      | (go_at_call 28; (with_reducible refine (q2.out _ (((Chg.refl _ _).alloc _).trans' H1.out)).mono ?_); rintro e w2 ⟨rfl, hc2⟩; have H2 := hid (H1.out.trans' hc2); clear hc2 k0 k1 k2 k3 k4; obtain ⟨k0, k1, k2, k3, k4⟩ := BOX.out _ H2.out)
      | (go_at_call 29; (with_reducible refine (q3.out _ (((Chg.refl _ _).alloc _).trans' H2.out)).mono ?_); rintro e w3 ⟨rfl, hc3⟩; have H3 := hid (H2.out.trans' hc3); clear hc3 k0 k1 k2 k3 k4; obtain ⟨k0, k1, k2, k3, k4⟩ := BOX.out _ H3.out)
      | (go_at_call 30; (with_reducible refine (q4.out _ (((Chg.refl _ _).alloc _).trans' H3.out)).mono ?_); rintro e w4 ⟨rfl, hc4⟩; have H4 := hid (H3.out.trans' hc4); clear hc4 k0 k1 k2 k3 k4; obtain ⟨k0, k1, k2, k3, k4⟩ := BOX.out _ H4.out))
    go_ret
    exact ⟨by rw [HP.out]; rfl, ((Chg.refl _ _).alloc _).trans' H4.out⟩
  go_enter Try.func12, Try.ntmps12
  go_wp2_with (first
    | (go_at_call 28; (with_reducible refine (q1.out _ ((Chg.refl _ _).alloc _)).mono ?_); rintro e w1 ⟨rfl, hc1⟩; have H1 := hid hc1; clear hc1; obtain ⟨k0, k1, k2, k3, k4⟩ := BOX.out _ H1.out)
    | (go_at_call 28; (with_reducible refine (q2.out _ (((Chg.refl _ _).alloc _).trans' H1.out)).mono ?_); rintro e w2 ⟨rfl, hc2⟩; have H2 := hid (H1.out.trans' hc2); clear hc2 k0 k1 k2 k3 k4; obtain ⟨k0, k1, k2, k3, k4⟩ := BOX.out _ H2.out)
    | (go_at_call 29; (with_reducible refine (q3.out _ (((Chg.refl _ _).alloc _).trans' H2.out)).mono ?_); rintro e w3 ⟨rfl, hc3⟩; have H3 := hid (H2.out.trans' hc3); clear hc3 k0 k1 k2 k3 k4; obtain ⟨k0, k1, k2, k3, k4⟩ := BOX.out _ H3.out)
    | (go_at_call 30; (with_reducible refine (q4.out _ (((Chg.refl _ _).alloc _).trans' H3.out)).mono ?_); rintro e w4 ⟨rfl, hc4⟩; have H4 := hid (H3.out.trans' hc4); clear hc4 k0 k1 k2 k3 k4; obtain ⟨k0, k1, k2, k3, k4⟩ := BOX.out _ H4.out))
  clear k0 k1 k2 k3 k4
  have HPc : Hid (R = chkT 0 T) := hid (by rw [HP.out]; rfl)
  go_loopw [4, 51] (fun vs vi wr => ∃ k s : Nat, k ≤ n5 ∧ vs = .int .i64 s ∧ vi = .int .i64 k ∧ s ≤ 262144 ∧ Chg [] w wr ∧ Hid (R = chkT s (T.drop k))) (fun _ vi _ => n5 - (intOf vi).toNat)
  case atStart => exact ⟨0, 0, Nat.zero_le _, rfl, rfl, by omega, ((Chg.refl _ _).alloc _).trans' H4.out, HPc.out⟩
  case round =>
    obtain ⟨k, s, hk, rfl, rfl, hs, hch, hh⟩ := hrel
    by_cases hlt : k < n5
    · have hkt : k < ts.length := by rw [HTL.out]; exact hlt
      have hkT : k < T.length := by rw [← HT.out.1, List.length_map]; exact hkt
      obtain ⟨bt, ot, hao, hcl⟩ := (HH5.out.keep hch).at thrC_len hkt (by omega)
      have c0 : wr.cell? ⟨bt, ot + k * 3, none⟩ = some (.string ts[k].t.name) := hcl 0 (by omega)
      have c1' : wr.cell? ⟨bt, ot + k * 3 + 1, none⟩ = some ts[k].code := hcl 1 (by omega)
      have c2' : wr.cell? ⟨bt, ot + k * 3 + 2, none⟩ = some ts[k].places := hcl 2 (by omega)
      have hx := HT.out.2.1 ts[k] (List.getElem_mem hkt)
      have hTk : T[k] = ts[k].t := by
        have := HT.out.1
        subst this
        simp
      have hnt := HT.out.2.2 T[k] (List.getElem_mem hkT)
      have hdr : T.drop k = T[k] :: T.drop (k + 1) := List.drop_eq_getElem_cons hkT
      have hh2 := hh.out
      rw [hdr] at hh2
      have hh3 : R = (thrB T[k] && (decide (s + T[k].code.length ≤ 262144) && chkT (s + T[k].code.length) (T.drop (k + 1)))) := hh2
      rw [thrB_chk] at hh3
      rw [hTk] at hh3 hnt
      obtain ⟨X, hX⟩ : ∃ X, ts[k] = X := ⟨_, rfl⟩
      rw [hX] at c0 c1' c2' hx hh3 hnt
      obtain ⟨⟨nm, code, places⟩, vc, vp⟩ := X
      simp only at c0 c1' c2' hx hh3 hnt
      obtain ⟨ac, cc, rfl, _⟩ := hx.1.len
      obtain ⟨ap, cp, rfl, _⟩ := hx.2.len
      obtain ⟨nc, hnc⟩ : ∃ n, code.length = n := ⟨_, rfl⟩
      obtain ⟨np, hnp⟩ : ∃ n, places.length = n := ⟨_, rfl⟩
      have hxc := hx.1.keep hch
      have hxp := hx.2.keep hch
      rw [hnc] at c1' hh3 hnt
      rw [hnp] at c2' hh3 hnt
      rw [show (decide (nm.size ≤ 24)) = !(longB nm) from by unfold longB; rw [Bool.eq_iff_iff]; simp] at hh3
      obtain ⟨lb, hlb⟩ : ∃ b, longB nm = b := ⟨_, rfl⟩
      have hls := long_same nm
      rw [hlb] at hh3 hls
      have HLS := hid hls
      have HX := hid (And.intro hxc hxp)
      have HNL := hid (And.intro hnc hnp)
      have HR := hid hh3
      have HCH := hid hch
      have HAO := hid hao
      obtain ⟨t1, t2, t3⟩ := hnt
      have zl : (k : Int) < (n5 : Int) := by omega
      subst hao
      clear hh hh2 hh3 hdr hcl hTk hX hx hxc hxp hnc hnp hlb hls hch
      cases lb
      case true =>
        go_wp2_with (go_at_call 27; refine (HLS.out _).mono ?_; rintro e w' ⟨rfl, rfl⟩)
        go_ret
        exact ⟨by rw [HR.out]; rfl, HCH.out.alloc _⟩
      by_cases g1 : 4096 < nc
      · have HR2 : Hid (R = false) := hid (by rw [HR.out, decide_eq_false (show ¬ nc ≤ 4096 by omega)]; rfl)
        have g1' : (4096 : Int) < (nc : Int) := by omega
        go_wp2_with (go_at_call 27; refine (HLS.out _).mono ?_; rintro e w' ⟨rfl, rfl⟩)
        go_ret
        exact ⟨by rw [HR2.out]; rfl, HCH.out.alloc _⟩
      have g1' : (nc : Int) ≤ 4096 := by omega
      by_cases g2 : np ≠ nc
      · have HR2 : Hid (R = false) := hid (by rw [HR.out, decide_eq_false g2]; simp)
        have g2' : ((np : Int) == (nc : Int)) = false := by rw [beq_eq_false_iff_ne]; omega
        have g2'' : ((np : Int) != (nc : Int)) = true := by rw [bne, g2']; rfl
        have g3 : (np == nc) = false := by rw [beq_eq_false_iff_ne]; exact g2
        have g3' : (np != nc) = true := by rw [bne, g3]; rfl
        go_wp2_with (go_at_call 27; refine (HLS.out _).mono ?_; rintro e w' ⟨rfl, rfl⟩)
        go_ret
        exact ⟨by rw [HR2.out]; rfl, HCH.out.alloc _⟩
      have g2' : np = nc := Classical.not_not.1 g2
      clear g2
      subst g2'
      by_cases g4 : 262144 < s + np
      · have HR2 : Hid (R = false) := hid (by rw [HR.out, decide_eq_false (show ¬ s + np ≤ 262144 by omega)]; simp)
        have g4' : (262144 : Int) < (s : Int) + (np : Int) := by omega
        go_wp2_with (go_at_call 27; refine (HLS.out _).mono ?_; rintro e w' ⟨rfl, rfl⟩)
        go_ret
        exact ⟨by rw [HR2.out]; rfl, HCH.out.alloc _⟩
      have g4' : (s : Int) + (np : Int) ≤ 262144 := by omega
      have HRg : Hid (R = (chkI code places && chkT (s + np) (T.drop (k + 1)))) := hid (by
        rw [HR.out, decide_eq_true (show np ≤ 4096 by omega), decide_eq_true (show s + np ≤ 262144 by omega)]
        simp)
      clear HR
      go_wp2_with (go_at_call 27; refine (HLS.out _).mono ?_; rintro e w' ⟨rfl, rfl⟩)
      obtain ⟨wo, rfl⟩ : ∃ wo : World, wo = wr := ⟨_, rfl⟩
      have tb : ∀ u, Chg [] (wo.alloc (.cells #[.string nm, .slice ac np cc, .slice ap np cp] 59)) u → u.cell? ⟨wo.heap.size, 1, none⟩ = some (.slice ac np cc) ∧ u.cell? ⟨wo.heap.size, 2, none⟩ = some (.slice ap np cp) := fun u hu => ⟨hu.cell (by simp) (by simp), hu.cell (by simp) (by simp)⟩
      have TB := hid tb
      clear tb c0 c1' c2'
      go_loopw [85] (fun vi wx => ∃ j : Nat, j ≤ np ∧ vi = .int .i64 j ∧ Chg [] (wo.alloc (.cells #[.string nm, .slice ac np cc, .slice ap np cp] 59)) wx ∧ Hid (chkI code places = chkI (code.drop j) (places.drop j))) (fun vi _ => np - (intOf vi).toNat)
      case atStart => exact ⟨0, Nat.zero_le _, rfl, Chg.refl _ _, rfl⟩
      case round =>
        obtain ⟨j, hj, rfl, hcx, hi⟩ := hrel
        by_cases hjl : j < np
        · have hjc : j < code.length := by rw [HNL.out.1]; exact hjl
          have hjp : j < places.length := by rw [HNL.out.2]; exact hjl
          have hox : Chg [] wo wr := ((Chg.refl _ _).alloc _).trans' hcx
          obtain ⟨bc, oc, hac, hcc⟩ := (HX.out.1.keep hox).at insC_len hjc (by omega)
          obtain ⟨bp, op, hap, hcp⟩ := (HX.out.2.keep hox).at plcC_len hjp (by omega)
          have hdc : code.drop j = code[j] :: code.drop (j + 1) := List.drop_eq_getElem_cons hjc
          have hdp : places.drop j = places[j] :: places.drop (j + 1) := List.drop_eq_getElem_cons hjp
          have hi2 := hi.out
          rw [hdc, hdp] at hi2
          have hi3 : chkI code places = (insB code[j] && plcB places[j] && chkI (code.drop (j + 1)) (places.drop (j + 1))) := hi2
          have y0 := hcc 0 (by omega)
          have y1 := hcc 1 (by omega)
          have y2 := hcc 2 (by omega)
          have y3 := hcc 3 (by omega)
          have y4 := hcc 4 (by omega)
          have v0 := fun o => ((Chg.refl [] wr).alloc o).cell (hcp 0 (by omega)) (by simp)
          have v1 := fun o => ((Chg.refl [] wr).alloc o).cell (hcp 1 (by omega)) (by simp)
          obtain ⟨X, hX⟩ : ∃ x, code[j] = x := ⟨_, rfl⟩
          obtain ⟨Y, hY⟩ : ∃ x, places[j] = x := ⟨_, rfl⟩
          rw [hX] at y0 y1 y2 y3 y4 hi3
          rw [hY] at v0 v1 hi3
          obtain ⟨x0, x1, x2, x3, x4⟩ := X
          obtain ⟨ln, cl⟩ := Y
          change wr.cell? _ = some (Value.int .i64 x0) at y0
          change wr.cell? _ = some (Value.int .i64 x1) at y1
          change wr.cell? _ = some (Value.int .i64 x2) at y2
          change wr.cell? _ = some (Value.int .i64 x3) at y3
          change wr.cell? _ = some (Value.int .i64 x4) at y4
          have v0' : ∀ o, (wr.alloc o).cell? ⟨bp, op + j * 2, none⟩ = some (.int .i64 ln) := v0
          have v1' : ∀ o, (wr.alloc o).cell? ⟨bp, op + j * 2 + 1, none⟩ = some (.int .i64 cl) := v1
          rw [Nat.add_zero] at y0
          obtain ⟨m1, m2⟩ := TB.out _ hcx
          have m2' := fun o => (TB.out _ (hcx.alloc o)).2
          have hin := instr_calls ⟨x0, x1, x2, x3, x4⟩
          obtain ⟨qi, hqi⟩ : ∃ q, insB ⟨x0, x1, x2, x3, x4⟩ = q := ⟨_, rfl⟩
          rw [hqi] at hin hi3
          have HI : Hid (∀ u, Calls Try.prog 32 #[.agg #[.int .i64 x0, .int .i64 x1, .int .i64 x2, .int .i64 x3, .int .i64 x4]] u _) := hid hin
          have hpl : plcB ⟨ln, cl⟩ = (decide (0 ≤ ln) && decide (ln ≤ 2147483647) && decide (0 ≤ cl) && decide (cl ≤ 2147483647)) := rfl
          rw [hpl] at hi3
          have HJ := hid hi3
          have HCX := hid hcx
          have HAC := hid hac
          have HAP := hid hap
          have zj : (j : Int) < (np : Int) := by omega
          subst hac hap
          clear hi hi2 hi3 hdc hdp hcc hcp hin hqi hpl hX hY v0 v1 hcx hox
          cases qi
          case false =>
            have HRf : Hid (R = false) := hid (by rw [HRg.out, HJ.out]; simp)
            go_wp2_with (go_at_call 32; refine (HI.out _).mono ?_; rintro e w7 ⟨rfl, hc7⟩; have p0 := hc7.cell (p := ⟨wr.heap.size + 1, 0, none⟩) (v := .int .i64 ln) (by simp) (by simp); have p1 := hc7.cell (p := ⟨wr.heap.size + 1, 1, none⟩) (v := .int .i64 cl) (by simp) (by simp))
            go_ret
            exact ⟨by rw [HRf.out]; rfl, ((((HCH.out.alloc _).trans' HCX.out).alloc _).alloc _).trans' hc7⟩
          by_cases hcl : cl < ln
          · have hbadR : (cl < 0 ∨ 2147483647 < ln) → R = false := fun h => by
              rw [HRg.out, HJ.out]
              have : (decide (0 ≤ ln) && decide (ln ≤ 2147483647) && decide (0 ≤ cl) && decide (cl ≤ 2147483647)) = false := by
                rw [Bool.eq_false_iff]
                intro h2
                simp only [Bool.and_eq_true, decide_eq_true_eq] at h2
                omega
              rw [this]
              simp
            by_cases hmn : cl < 0
            · have HRf := hid (hbadR (.inl hmn))
              clear hbadR
              go_wp2_with (go_at_call 32; refine (HI.out _).mono ?_; rintro e w7 ⟨rfl, hc7⟩; have p0 := hc7.cell (p := ⟨wr.heap.size + 1, 0, none⟩) (v := .int .i64 ln) (by simp) (by simp); have p1 := hc7.cell (p := ⟨wr.heap.size + 1, 1, none⟩) (v := .int .i64 cl) (by simp) (by simp))
              go_ret
              exact ⟨by rw [HRf.out]; rfl, ((((HCH.out.alloc _).trans' HCX.out).alloc _).alloc _).trans' hc7⟩
            by_cases hmx2 : 2147483647 < ln
            · have HRf := hid (hbadR (.inr hmx2))
              clear hbadR
              go_wp2_with (go_at_call 32; refine (HI.out _).mono ?_; rintro e w7 ⟨rfl, hc7⟩; have p0 := hc7.cell (p := ⟨wr.heap.size + 1, 0, none⟩) (v := .int .i64 ln) (by simp) (by simp); have p1 := hc7.cell (p := ⟨wr.heap.size + 1, 1, none⟩) (v := .int .i64 cl) (by simp) (by simp))
              go_ret
              exact ⟨by rw [HRf.out]; rfl, ((((HCH.out.alloc _).trans' HCX.out).alloc _).alloc _).trans' hc7⟩
            have hgood : chkI code places = chkI (code.drop (j + 1)) (places.drop (j + 1)) := by
              rw [HJ.out]
              have : (decide (0 ≤ ln) && decide (ln ≤ 2147483647) && decide (0 ≤ cl) && decide (cl ≤ 2147483647)) = true := by
                simp only [Bool.and_eq_true, decide_eq_true_eq]
                omega
              rw [this]
              simp
            have HG := hid hgood
            have hmn2 : 0 ≤ cl := by omega
            have hmx3 : ln ≤ 2147483647 := by omega
            clear hbadR hgood
            go_wp2_with (go_at_call 32; refine (HI.out _).mono ?_; rintro e w7 ⟨rfl, hc7⟩; have p0 := hc7.cell (p := ⟨wr.heap.size + 1, 0, none⟩) (v := .int .i64 ln) (by simp) (by simp); have p1 := hc7.cell (p := ⟨wr.heap.size + 1, 1, none⟩) (v := .int .i64 cl) (by simp) (by simp))
            go_roundw
            case rel => exact ⟨j + 1, by omega, by go_num, ((HCX.out.alloc _).alloc _).trans' hc7, HG.out⟩
            case measure => simp [intOf]; omega
          by_cases hcl2 : ln < cl
          · have hbadR : (ln < 0 ∨ 2147483647 < cl) → R = false := fun h => by
              rw [HRg.out, HJ.out]
              have : (decide (0 ≤ ln) && decide (ln ≤ 2147483647) && decide (0 ≤ cl) && decide (cl ≤ 2147483647)) = false := by
                rw [Bool.eq_false_iff]
                intro h2
                simp only [Bool.and_eq_true, decide_eq_true_eq] at h2
                omega
              rw [this]
              simp
            by_cases hmn : ln < 0
            · have HRf := hid (hbadR (.inl hmn))
              clear hbadR
              go_wp2_with (go_at_call 32; refine (HI.out _).mono ?_; rintro e w7 ⟨rfl, hc7⟩; have p0 := hc7.cell (p := ⟨wr.heap.size + 1, 0, none⟩) (v := .int .i64 ln) (by simp) (by simp); have p1 := hc7.cell (p := ⟨wr.heap.size + 1, 1, none⟩) (v := .int .i64 cl) (by simp) (by simp))
              go_ret
              exact ⟨by rw [HRf.out]; rfl, ((((HCH.out.alloc _).trans' HCX.out).alloc _).alloc _).trans' hc7⟩
            by_cases hmx2 : 2147483647 < cl
            · have HRf := hid (hbadR (.inr hmx2))
              clear hbadR
              go_wp2_with (go_at_call 32; refine (HI.out _).mono ?_; rintro e w7 ⟨rfl, hc7⟩; have p0 := hc7.cell (p := ⟨wr.heap.size + 1, 0, none⟩) (v := .int .i64 ln) (by simp) (by simp); have p1 := hc7.cell (p := ⟨wr.heap.size + 1, 1, none⟩) (v := .int .i64 cl) (by simp) (by simp))
              go_ret
              exact ⟨by rw [HRf.out]; rfl, ((((HCH.out.alloc _).trans' HCX.out).alloc _).alloc _).trans' hc7⟩
            have hgood : chkI code places = chkI (code.drop (j + 1)) (places.drop (j + 1)) := by
              rw [HJ.out]
              have : (decide (0 ≤ ln) && decide (ln ≤ 2147483647) && decide (0 ≤ cl) && decide (cl ≤ 2147483647)) = true := by
                simp only [Bool.and_eq_true, decide_eq_true_eq]
                omega
              rw [this]
              simp
            have HG := hid hgood
            have hmn2 : 0 ≤ ln := by omega
            have hmx3 : cl ≤ 2147483647 := by omega
            clear hbadR hgood
            go_wp2_with (go_at_call 32; refine (HI.out _).mono ?_; rintro e w7 ⟨rfl, hc7⟩; have p0 := hc7.cell (p := ⟨wr.heap.size + 1, 0, none⟩) (v := .int .i64 ln) (by simp) (by simp); have p1 := hc7.cell (p := ⟨wr.heap.size + 1, 1, none⟩) (v := .int .i64 cl) (by simp) (by simp))
            go_roundw
            case rel => exact ⟨j + 1, by omega, by go_num, ((HCX.out.alloc _).alloc _).trans' hc7, HG.out⟩
            case measure => simp [intOf]; omega
          obtain rfl : ln = cl := by omega
          have hbadR : (ln < 0 ∨ 2147483647 < ln) → R = false := fun h => by
            rw [HRg.out, HJ.out]
            have : (decide (0 ≤ ln) && decide (ln ≤ 2147483647) && decide (0 ≤ ln) && decide (ln ≤ 2147483647)) = false := by
              rw [Bool.eq_false_iff]
              intro h2
              simp only [Bool.and_eq_true, decide_eq_true_eq] at h2
              omega
            rw [this]
            simp
          by_cases hmn : ln < 0
          · have HRf := hid (hbadR (.inl hmn))
            clear hbadR
            go_wp2_with (go_at_call 32; refine (HI.out _).mono ?_; rintro e w7 ⟨rfl, hc7⟩; have p0 := hc7.cell (p := ⟨wr.heap.size + 1, 0, none⟩) (v := .int .i64 ln) (by simp) (by simp); have p1 := hc7.cell (p := ⟨wr.heap.size + 1, 1, none⟩) (v := .int .i64 ln) (by simp) (by simp))
            go_ret
            exact ⟨by rw [HRf.out]; rfl, ((((HCH.out.alloc _).trans' HCX.out).alloc _).alloc _).trans' hc7⟩
          by_cases hmx2 : 2147483647 < ln
          · have HRf := hid (hbadR (.inr hmx2))
            clear hbadR
            go_wp2_with (go_at_call 32; refine (HI.out _).mono ?_; rintro e w7 ⟨rfl, hc7⟩; have p0 := hc7.cell (p := ⟨wr.heap.size + 1, 0, none⟩) (v := .int .i64 ln) (by simp) (by simp); have p1 := hc7.cell (p := ⟨wr.heap.size + 1, 1, none⟩) (v := .int .i64 ln) (by simp) (by simp))
            go_ret
            exact ⟨by rw [HRf.out]; rfl, ((((HCH.out.alloc _).trans' HCX.out).alloc _).alloc _).trans' hc7⟩
          have hgood : chkI code places = chkI (code.drop (j + 1)) (places.drop (j + 1)) := by
            rw [HJ.out]
            have : (decide (0 ≤ ln) && decide (ln ≤ 2147483647) && decide (0 ≤ ln) && decide (ln ≤ 2147483647)) = true := by
              simp only [Bool.and_eq_true, decide_eq_true_eq]
              omega
            rw [this]
            simp
          have HG := hid hgood
          have hmn2 : 0 ≤ ln := by omega
          have hmx3 : ln ≤ 2147483647 := by omega
          clear hbadR hgood
          go_wp2_with (go_at_call 32; refine (HI.out _).mono ?_; rintro e w7 ⟨rfl, hc7⟩; have p0 := hc7.cell (p := ⟨wr.heap.size + 1, 0, none⟩) (v := .int .i64 ln) (by simp) (by simp); have p1 := hc7.cell (p := ⟨wr.heap.size + 1, 1, none⟩) (v := .int .i64 ln) (by simp) (by simp))
          go_roundw
          case rel => exact ⟨j + 1, by omega, by go_num, ((HCX.out.alloc _).alloc _).trans' hc7, HG.out⟩
          case measure => simp [intOf]; omega
        · obtain rfl : j = np := by omega
          have hq : chkI code places = true := by
            rw [hi.out, List.drop_eq_nil_of_le (by rw [HNL.out.1]; exact Nat.le_refl _)]
            rfl
          have hR3 : Hid (R = chkT (s + j) (T.drop (k + 1))) := hid (by rw [HRg.out, hq, Bool.true_and])
          have HC2 := hid ((HCH.out.alloc _).trans' hcx)
          clear hi hq hcx
          go_wp2
          go_roundw
          case rel => exact ⟨k + 1, s + j, by omega, by go_num, by go_num, by omega, HC2.out, hR3⟩
          case measure => simp [intOf]; omega
    · obtain rfl : k = n5 := by omega
      have hR : R = true := by
        rw [hh.out, List.drop_eq_nil_of_le (by rw [← HT.out.1, List.length_map, HTL.out]; exact Nat.le_refl _)]
        rfl
      have HR := hid hR
      have HCH := hid hch
      clear hh hR hch
      go_wp2
      go_ret
      exact ⟨by rw [HR.out]; rfl, HCH.out⟩
end Go.Proofs.Ytbikekgljabalaa
