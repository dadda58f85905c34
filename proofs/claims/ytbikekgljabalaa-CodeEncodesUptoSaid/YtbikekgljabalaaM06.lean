/- Several texts of this seat, one behind the other: Hg, Hc, Hh. -/
import Derived.Test.YtbikekgljabalaaHf1
import Derived.Test.YtbikekgljabalaaHf2
import Derived.Test.YtbikekgljabalaaHf3
import Derived.Test.YtbikekgljabalaaM05
/- Walks of the code layer: an instruction taken off, joined. -/
namespace Go.Proofs.Ytbikekgljabalaa
open Go.RowKit Go.AB
set_option linter.unusedSectionVars false
set_option linter.unusedSimpArgs false
set_option linter.unusedVariables false
set_option maxHeartbeats 1000000 in
theorem dinstr_calls {w : World} {b : Nat} {l : List UInt8} {ao : Option Addr} {cap q : Nat} (hO : Ok w b l ao cap q) (hl : l.length ≤ 16777216) :
    Calls Try.prog 87 #[.agg #[.pointer (some ⟨b, 0, none⟩)]] w (DV insV w b l ao cap (dIns l q)) := by
  obtain ⟨op, p1, h1, b1, hT1⟩ : ∃ o p h b, rFixed 1 l ⟨q, 0, 0⟩ = (o, ⟨p, h, b⟩) := ⟨_, _, _, _, rfl⟩
  have ho := rFixed_lt 1 l ⟨q, 0, 0⟩
  rw [hT1] at ho
  obtain ⟨v, p2, h2, b2, hT2⟩ : ∃ o p h b, (if nA op then rFixed 1 l ⟨p1, h1, b1⟩ else (0, ⟨p1, h1, b1⟩)) = (o, ⟨p, h, b⟩) := ⟨_, _, _, _, rfl⟩
  have hv : v < 256 := by
    have := rFixed_lt 1 l ⟨p1, h1, b1⟩
    cases hq : nA op <;> rw [hq] at hT2 <;> simp at hT2
    · omega
    · rw [hT2] at this; omega
  obtain ⟨c, p3, h3, b3, hT3⟩ : ∃ o p h b, (if nC op then rFixed 1 l ⟨p2, h2, b2⟩ else (0, ⟨p2, h2, b2⟩)) = (o, ⟨p, h, b⟩) := ⟨_, _, _, _, rfl⟩
  have hc : c < 256 := by
    have := rFixed_lt 1 l ⟨p2, h2, b2⟩
    cases hq : nC op <;> rw [hq] at hT3 <;> simp at hT3
    · omega
    · rw [hT3] at this; omega
  obtain ⟨n, p4, h4, b4, hT4⟩ : ∃ o p h b, (if nN op then rSigned l ⟨p3, h3, b3⟩ else (0, ⟨p3, h3, b3⟩)) = (o, ⟨p, h, b⟩) := ⟨_, _, _, _, rfl⟩
  have hP : pIns l ⟨q, 0, 0⟩ = ((op, v, c, n), ⟨p4, h4, b4⟩) := by
    unfold pIns
    simp only [hT1, hT2, hT3, hT4]
  have hX' : (⟨op, if nB op then ((v : Int) % 16) else v, if nB op then ((v : Int) / 16) else 0, c, n⟩ : InsD) = insOf (op, v, c, n) := by
    unfold insOf
    simp only [Int.natCast_emod, Int.natCast_ediv]
    rfl
  have hnm := names_calls op
  have hbn := nB_nA op
  have hins := instr_calls (insOf (op, v, c, n))
  obtain ⟨ib, hib⟩ : ∃ ib, insB (insOf (op, v, c, n)) = ib := ⟨_, rfl⟩
  rw [hib] at hins
  have hg : b4 = 0 → ib = true → dIns l q = some (insOf (op, v, c, n), p4) ∧ h4 = 0 := fun e1 e2 => by
    have hw := (((p_byte (L := l)).pair (fun op => ((p_byte (L := l)).opt (nA op) 0).pair (fun _ => ((p_byte (L := l)).opt (nC op) 0).pair (fun _ => (p_signed (L := l)).opt (nN op) 0)))).fwd ⟨q, 0, 0⟩ hO.rd.ok (by show (pIns l ⟨q, 0, 0⟩).2.bad = 0; rw [hP]; exact e1)).1
    replace hw : (pIns l ⟨q, 0, 0⟩).2.wh = 0 := hw
    rw [hP] at hw
    refine ⟨?_, hw⟩
    unfold dIns sureP
    rw [hP, if_pos ⟨e1, by simp only [hib, e2]⟩]
    rfl
  have hgn : b4 ≠ 0 ∨ ib = false → dIns l q = none := fun e => by
    unfold dIns sureP
    rw [hP, if_neg (fun h => by
      rcases e with e | e
      · exact e h.1
      · have h2 := h.2
        simp only [hib, e] at h2
        cases h2)]
    rfl
  have hgd : (b4 = 0 ∧ ib = true) ∨ (b4 ≠ 0 ∨ ib = false) := by
    cases ib <;> by_cases h : b4 = 0 <;> simp [h]
  have hm : ∀ qa qb qc qn, nA op = qa → nB op = qb → nC op = qc → nN op = qn → DIn w b l ao cap q op v c n p1 h1 b1 p2 h2 b2 p3 h3 b3 p4 h4 b4 ib qa qb qc qn := fun qa qb qc qn ea eb ec en => by
    subst ea eb ec en
    exact ⟨hO, hl, by omega, hv, hc, hT1, hT2, hT3, hT4, hX', hid hins, hid hnm, hid hg, hid hgn, hgd⟩
  cases ea : nA op <;> cases eb : nB op <;> cases ec : nC op <;> cases en : nN op
  · exact dinstr_0000 (hm _ _ _ _ ea eb ec en)
  · exact dinstr_0001 (hm _ _ _ _ ea eb ec en)
  · exact dinstr_0010 (hm _ _ _ _ ea eb ec en)
  · exact dinstr_0011 (hm _ _ _ _ ea eb ec en)
  · rw [ea, eb] at hbn; exact absurd (hbn rfl) (by simp)
  · rw [ea, eb] at hbn; exact absurd (hbn rfl) (by simp)
  · rw [ea, eb] at hbn; exact absurd (hbn rfl) (by simp)
  · rw [ea, eb] at hbn; exact absurd (hbn rfl) (by simp)
  · exact dinstr_1000 (hm _ _ _ _ ea eb ec en)
  · exact dinstr_1001 (hm _ _ _ _ ea eb ec en)
  · exact dinstr_1010 (hm _ _ _ _ ea eb ec en)
  · exact dinstr_1011 (hm _ _ _ _ ea eb ec en)
  · exact dinstr_1100 (hm _ _ _ _ ea eb ec en)
  · exact dinstr_1101 (hm _ _ _ _ ea eb ec en)
  · exact dinstr_1110 (hm _ _ _ _ ea eb ec en)
  · exact dinstr_1111 (hm _ _ _ _ ea eb ec en)
end Go.Proofs.Ytbikekgljabalaa

/- Programs read out of bytes, plain: a body is taken just if it is a plain program's. -/
namespace Go.Proofs.Ytbikekgljabalaa
open Go.RowKit Go.AB
set_option linter.unusedSectionVars false
set_option linter.unusedVariables false

theorem encs_ip : ∀ (l : List (InsD × PlcD)) (line : Int), encs (fun line x => insH x.1 ++ plcL line x.2) nxIP line l = inssL line (l.map Prod.fst) (l.map Prod.snd)
  | [], _ => rfl
  | x :: l, line => by
    simp only [encs, List.map_cons, inssL, insL_eq, nxIP, encs_ip l x.2.line]
theorem c_list {α : Type} {L : List UInt8} {d : Ps α} {enc : α → List UInt8} {ok : α → Prop} (h : Codec L d enc ok) (m : Nat) (hm : m < 18446744073709551616) :
    Codec L (dList m L d) (fun xs => shortB xs.length ++ xs.flatMap enc) (fun xs => xs.length ≤ m ∧ ∀ x ∈ xs, ok x) := by
  refine (Codec.pair (c_cnt (L := L) m) (fun n _ => rep_codec (V := fun _ => True) (fun _ _ => h) (fun _ _ => trivial) n () trivial)).to (enc' := fun xs => shortB xs.length ++ xs.flatMap enc) (ok' := fun xs => xs.length ≤ m ∧ ∀ x ∈ xs, ok x) (fun r => r.2) (fun x hx => ?_) (fun y hy => ?_)
  · obtain ⟨n, l⟩ := x
    obtain ⟨⟨⟨h1, h2⟩, _⟩, h3, h4⟩ := hx
    simp only at h1 h2 h3 h4 ⊢
    subst h3
    exact ⟨⟨h1, h4⟩, by rw [encs_flat]⟩
  · exact ⟨(y.length, y), ⟨⟨⟨hy.1, by unfold U64; simp only; omega⟩, rfl⟩, rfl, hy.2⟩, rfl⟩
section
variable {L : List UInt8} (hL : L.length < 18446744073709551616)
include hL
theorem c_thr : Codec L (dThr L) thrL (fun t => thrB t = true ∧ ∀ x ∈ t.code, I64 x.n) := by
  refine (Codec.pair (((p_text hL).pair (fun _ => p_short 4096)).sure (fun _ => true)) (fun x _ => rep_codec (V := fun line : Int => 0 ≤ line ∧ line ≤ 2147483647)
    (fun line hl => Codec.pair (c_ins (L := L)) (fun _ _ => c_plc line hl)) (nx := nxIP) (fun y hy => ?_) x.2 0 (by omega))).to (enc' := thrL) (ok' := fun t => thrB t = true ∧ ∀ x ∈ t.code, I64 x.n) (fun r => ⟨⟨r.1.1.toArray⟩, r.2.map Prod.fst, r.2.map Prod.snd⟩) (fun x hx => ?_) (fun y hy => ?_)
  · have h := hy.2
    simp only [plcB, Bool.and_eq_true, decide_eq_true_eq] at h
    unfold nxIP
    exact ⟨h.1.1.1, h.1.1.2⟩
  · obtain ⟨⟨nm, n⟩, l⟩ := x
    obtain ⟨⟨⟨h1, h2, h3⟩, _⟩, h4, h5⟩ := hx
    simp only at h1 h2 h3 h4 h5 ⊢
    subst h4
    refine ⟨⟨?_, ?_⟩, ?_⟩
    · simp only [thrB, Bool.and_eq_true, decide_eq_true_eq, List.all_eq_true, List.length_map, toArray_size, and_true]
      refine ⟨⟨h1, h2⟩, fun x hx => ?_, fun x hx => ?_⟩
      · obtain ⟨y, hy, rfl⟩ := List.mem_map.1 hx
        exact (h5 y hy).1.1
      · obtain ⟨y, hy, rfl⟩ := List.mem_map.1 hx
        exact (h5 y hy).2
    · intro x hx
      obtain ⟨y, hy, rfl⟩ := List.mem_map.1 hx
      exact (h5 y hy).1.2
    · simp only [thrL, List.length_map, textB_of]
      rw [← encs_ip]
  · obtain ⟨nm, code, places⟩ := y
    obtain ⟨ht, hn⟩ := hy
    simp only [thrB, Bool.and_eq_true, decide_eq_true_eq, List.all_eq_true] at ht
    obtain ⟨⟨⟨t1, t2⟩, t3⟩, t4, t5⟩ := ht
    obtain ⟨l, h1, h2⟩ := arr_ex nm
    refine ⟨((l, code.length), code.zip places), ⟨⟨⟨by simp only; omega, by simp only; omega, by unfold U64; simp only; omega⟩, rfl⟩, ?_, ?_⟩, ?_⟩
    · simp only [List.length_zip]; omega
    · intro x hx
      have hz := List.of_mem_zip (a := x.1) (b := x.2) hx
      exact ⟨⟨t4 _ hz.1, hn _ hz.1⟩, t5 _ hz.2⟩
    · simp only [h1, ThrD.mk.injEq, true_and]
      exact ⟨List.map_fst_zip (by omega), List.map_snd_zip (by omega)⟩
theorem dPrg_fwd {p : Nat} {x : PrgD} {q : Nat} (hp : p ≤ L.length) (hd : dPrg L p = some (x, q)) :
    ((x.vars.length ≤ 4096 ∧ ∀ v ∈ x.vars, v.name.size ≤ 24 ∧ I64 v.first) ∧ (x.vols.length ≤ 4096 ∧ ∀ v ∈ x.vols, v.name.size ≤ 24 ∧ I64 v.first) ∧ (x.locks.length ≤ 4096 ∧ ∀ v ∈ x.locks, v.size ≤ 24) ∧
      (x.bars.length ≤ 4096 ∧ ∀ v ∈ x.bars, v.name.size ≤ 24 ∧ I64 v.first) ∧ (x.thrs.length ≤ 65535 ∧ ∀ t ∈ x.thrs, thrB t = true ∧ ∀ y ∈ t.code, I64 y.n)) ∧
      q ≤ L.length ∧ L.take q = L.take p ++ bodyL x := by
  unfold dPrg at hd
  rcases k1 : dList 4096 L (dVar L) p with _ | ⟨a, p1⟩
  · simp [k1] at hd
  rcases k2 : dList 4096 L (dVar L) p1 with _ | ⟨b, p2⟩
  · simp [k1, k2] at hd
  rcases k3 : dList 4096 L (dLock L) p2 with _ | ⟨c, p3⟩
  · simp [k1, k2, k3] at hd
  rcases k4 : dList 4096 L (dVar L) p3 with _ | ⟨d, p4⟩
  · simp [k1, k2, k3, k4] at hd
  rcases k5 : dList 65535 L (dThr L) p4 with _ | ⟨e, p5⟩
  · simp [k1, k2, k3, k4, k5] at hd
  simp only [k1, k2, k3, k4, k5, Option.bind_some, Option.map_some, Option.some.injEq, Prod.mk.injEq] at hd
  obtain ⟨rfl, rfl⟩ := hd
  obtain ⟨a1, a2, a3⟩ := (c_list (c_var hL) 4096 (by omega)).fwd _ _ _ hp k1
  obtain ⟨b1, b2, b3⟩ := (c_list (c_var hL) 4096 (by omega)).fwd _ _ _ a2 k2
  obtain ⟨d1, d2, d3⟩ := (c_list (c_lock hL) 4096 (by omega)).fwd _ _ _ b2 k3
  obtain ⟨e1, e2, e3⟩ := (c_list (c_var hL) 4096 (by omega)).fwd _ _ _ d2 k4
  obtain ⟨f1, f2, f3⟩ := (c_list (c_thr hL) 65535 (by omega)).fwd _ _ _ e2 k5
  refine ⟨⟨a1, b1, d1, e1, f1⟩, f2, ?_⟩
  rw [f3, e3, d3, b3, a3]
  simp only [bodyL, varsL, List.append_assoc]
theorem dPrg_bwd {p : Nat} {x : PrgD} {rest : List UInt8} (h1 : x.vars.length ≤ 4096 ∧ ∀ v ∈ x.vars, v.name.size ≤ 24 ∧ I64 v.first) (h2 : x.vols.length ≤ 4096 ∧ ∀ v ∈ x.vols, v.name.size ≤ 24 ∧ I64 v.first)
    (h3 : x.locks.length ≤ 4096 ∧ ∀ v ∈ x.locks, v.size ≤ 24) (h4 : x.bars.length ≤ 4096 ∧ ∀ v ∈ x.bars, v.name.size ≤ 24 ∧ I64 v.first) (h5 : x.thrs.length ≤ 65535 ∧ ∀ t ∈ x.thrs, thrB t = true ∧ ∀ y ∈ t.code, I64 y.n)
    (hd : L.drop p = bodyL x ++ rest) : dPrg L p = some (x, p + (bodyL x).length) := by
  simp only [bodyL, varsL, List.append_assoc] at hd
  have a := (c_list (c_var hL) 4096 (by omega)).bwd p x.vars _ h1 (by rw [hd, List.append_assoc])
  have d1 := drop_app (x := shortB x.vars.length ++ x.vars.flatMap varB) (by rw [hd, List.append_assoc])
  have b := (c_list (c_var hL) 4096 (by omega)).bwd _ x.vols _ h2 (by rw [d1, List.append_assoc])
  have d2 := drop_app (x := shortB x.vols.length ++ x.vols.flatMap varB) (by rw [d1, List.append_assoc])
  have c := (c_list (c_lock hL) 4096 (by omega)).bwd _ x.locks _ h3 (by rw [d2, List.append_assoc])
  have d3 := drop_app (x := shortB x.locks.length ++ x.locks.flatMap textB) (by rw [d2, List.append_assoc])
  have d := (c_list (c_var hL) 4096 (by omega)).bwd _ x.bars _ h4 (by rw [d3, List.append_assoc])
  have d4 := drop_app (x := shortB x.bars.length ++ x.bars.flatMap varB) (by rw [d3, List.append_assoc])
  have e := (c_list (c_thr hL) 65535 (by omega)).bwd _ x.thrs _ h5 (by rw [d4, List.append_assoc])
  unfold dPrg
  simp only [a, b, c, d, e, Option.bind_some, Option.map_some]
  simp only [Option.some.injEq, Prod.mk.injEq, true_and, bodyL, varsL, List.length_append]
  omega
/-- A body is taken just if it is a plain program's. -/
theorem dBody_iff (x : PrgD) : dBody L = some x ↔ prgB x = true ∧ Wf64 x ∧ L = bodyL x := by
  constructor
  · intro h
    unfold dBody at h
    rcases k : dPrg L 0 with _ | ⟨y, q⟩
    · simp [k] at h
    simp only [k, Option.bind_some] at h
    split at h
    · rename_i hc
      simp only [Option.some.injEq] at h
      subst h
      obtain ⟨⟨a1, a2, a3, a4, a5⟩, a6, a7⟩ := dPrg_fwd hL (Nat.zero_le _) k
      refine ⟨hc.2, ⟨fun v hv => (a1.2 v hv).2, fun v hv => (a2.2 v hv).2, fun v hv => (a4.2 v hv).2, fun t ht => (a5.2 t ht).2⟩, ?_⟩
      rw [hc.1, List.take_length] at a7
      simpa using a7
    · cases h
  · rintro ⟨hb, hw, he⟩
    have hb' := hb
    unfold prgB varsB locksB at hb'
    simp only [Bool.and_eq_true, decide_eq_true_eq, List.all_eq_true] at hb'
    obtain ⟨⟨⟨⟨⟨h1, h2⟩, h3⟩, h4⟩, h5⟩, h6, h7⟩ := hb'
    have k := dPrg_bwd hL (p := 0) (x := x) (rest := []) ⟨h1.1, fun v hv => ⟨h1.2 v hv, hw.vars v hv⟩⟩ ⟨h2.1, fun v hv => ⟨h2.2 v hv, hw.vols v hv⟩⟩ h3 ⟨h4.1, fun v hv => ⟨h4.2 v hv, hw.bars v hv⟩⟩ ⟨h5, fun t ht => ⟨h6 t ht, hw.thrs t ht⟩⟩ (by simpa using he)
    unfold dBody
    simp only [k, Option.bind_some]
    rw [if_pos ⟨by rw [he]; simp, hb⟩]
end
end Go.Proofs.Ytbikekgljabalaa

/- Walks of the code layer: a thread taken off, what holds while it is taken. -/
namespace Go.Proofs.Ytbikekgljabalaa
open Go.RowKit Go.AB
set_option linter.unusedSimpArgs false
set_option linter.unusedVariables false
set_option linter.unusedSectionVars false

theorem info_ins : (Try.prog.info? 61).map (fun i => (i.zero, i.size, i.bytes)) = some (some (.agg #[.int .i64 0, .int .i64 0, .int .i64 0, .int .i64 0, .int .i64 0]), 5, 40) := by kernel_rfl
theorem elem_ins : ElemOk Try.prog 56 61 5 40 := .of Try.underlying56 info_ins rfl (by decide)
theorem info_plc : (Try.prog.info? 63).map (fun i => (i.zero, i.size, i.bytes)) = some (some (.agg #[.int .i64 0, .int .i64 0]), 2, 16) := by kernel_rfl
theorem elem_plc : ElemOk Try.prog 57 63 2 16 := .of Try.underlying57 info_plc rfl (by decide)

/-- A call may write the reader b alone; a row of its own, and a box of its own. -/
structure TH (w u : World) (b : Nat) (l : List UInt8) (ao : Option Addr) (cap p h bd xb : Nat) (nm vc vp : Value) (rc rp : Option Nat) (jc jp : Nat) (cc cp : List Value) : Prop where
  rd : Rd 133 u b l ao cap p h bd
  lt : ∀ g, (Value.slice ao l.length cap).ownBlock = some g → g < w.heap.size
  bl : b < w.heap.size
  chg : Chg [b] w u
  box : u.heap[w.heap.size]? = some (.cells #[.pointer (some ⟨b, 0, none⟩)] 89 (0, 0))
  res : u.heap[w.heap.size + 1]? = some (.cells #[.string ⟨#[]⟩, .slice none 0 0, .slice none 0 0] 59 (0, 0))
  x : u.heap[xb]? = some (.cells #[nm, vc, vp] 59 (0, 0))
  xge : w.heap.size + 2 ≤ xb
  rowc : Row u 61 5 vc rc jc cc
  rowp : Row u 63 2 vp rp jp cp
  frc : ∀ g, rc = some g → w.heap.size + 2 ≤ g ∧ g ≠ xb
  frp : ∀ g, rp = some g → w.heap.size + 2 ≤ g ∧ g ≠ xb
  ne : ∀ g, rc = some g → rp ≠ some g
section
variable {w u u' : World} {b : Nat} {l : List UInt8} {ao : Option Addr} {cap p h bd p' h' bd' xb : Nat} {nm vc vp vc' vp' : Value} {rc rp rc' rp' : Option Nat} {jc jp jc' jp' : Nat} {cc cp cc' cp' : List Value}
theorem TH.facts (k : TH w u b l ao cap p h bd xb nm vc vp rc rp jc jp cc cp) : u.cell? ⟨w.heap.size, 0, none⟩ = some (.pointer (some ⟨b, 0, none⟩)) ∧
    u.cell? ⟨xb, 0, none⟩ = some nm ∧ u.cell? ⟨xb, 1, none⟩ = some vc ∧ u.cell? ⟨xb, 2, none⟩ = some vp ∧ u.frozen? ⟨xb, 1, none⟩ = false ∧ u.frozen? ⟨xb, 2, none⟩ = false ∧ w.heap.size ≠ xb ∧ xb ≠ w.heap.size := by
  have := k.xge
  exact ⟨blk_cell k.box 0, blk_cell k.x 0, blk_cell k.x 1, blk_cell k.x 2, blk_free k.x 1, blk_free k.x 2, by omega, by omega⟩
theorem TH.take (k : TH w u b l ao cap p h bd xb nm vc vp rc rp jc jp cc cp) (hc : Chg [b] u u') (hr : Rd 133 u' b l ao cap p' h' bd') : TH w u' b l ao cap p' h' bd' xb nm vc vp rc rp jc jp cc cp := by
  have hx := k.xge
  have hb := k.bl
  refine ⟨hr, k.lt, k.bl, k.chg.trans' hc, hc.heap k.box (by simp; omega), hc.heap k.res (by simp; omega), hc.heap k.x (by simp; omega), k.xge, k.rowc.keep hc (fun g hg => ?_), k.rowp.keep hc (fun g hg => ?_), k.frc, k.frp, k.ne⟩
  · have := k.frc g hg; simp; omega
  · have := k.frp g hg; simp; omega
theorem TH.same (k : TH w u b l ao cap p h bd xb nm vc vp rc rp jc jp cc cp) (hc : Chg [] u u') : TH w u' b l ao cap p h bd xb nm vc vp rc rp jc jp cc cp :=
  ⟨k.rd.keep hc (by simp) (by simp), k.lt, k.bl, k.chg.trans' hc.nil, hc.heap k.box (by simp), hc.heap k.res (by simp), hc.heap k.x (by simp), k.xge, k.rowc.keep hc (by simp), k.rowp.keep hc (by simp), k.frc, k.frp, k.ne⟩
/-- Behind an append to the instructions: the cell, the box, and all once the new list is stored. -/
theorem TH.putc (k : TH w u b l ao cap p h bd xb nm vc vp rc rp jc jp cc cp) (hr : Row u' 61 5 vc' rc' jc' cc') (hc : Chg rc.toList u u') (hf : Fresh u rc rc') :
    (u'.cell? ⟨w.heap.size, 0, none⟩ = some (.pointer (some ⟨b, 0, none⟩)) ∧ u'.cell? ⟨xb, 1, none⟩ = some vc ∧ u'.frozen? ⟨xb, 1, none⟩ = false) ∧ TH w (u'.setCell ⟨xb, 1, none⟩ vc') b l ao cap p h bd xb nm vc' vp rc' rp jc' jp cc' cp := by
  have hx := k.xge
  have hb := k.bl
  have hm : ∀ g, g < w.heap.size + 2 ∨ g = xb → g ∉ rc.toList := fun g hg hm => by
    have := k.frc g (by simpa using hm)
    omega
  have hbox := hc.heap k.box (hm _ (by omega))
  have hres := hc.heap k.res (hm _ (by omega))
  have hxx := hc.heap k.x (hm _ (by omega))
  have hxl := blk_lt k.x
  have hfr : ∀ g, rc' = some g → w.heap.size + 2 ≤ g ∧ g ≠ xb := fun g hg => by
    rcases hf g hg with h1 | h1
    · exact k.frc g h1
    · omega
  have hne : ∀ g, rc' = some g → rp ≠ some g := fun g hg e => by
    rcases hf g hg with h1 | h1
    · exact k.ne g h1 e
    · have := k.rowp.lt g e; omega
  have hs : Chg [xb] u' (u'.setCell ⟨xb, 1, none⟩ vc') := (Chg.refl [xb] u').setCell (p := ⟨xb, 1, none⟩) (.inl (by simp)) _
  have hrd := (k.rd.keep hc (hm _ (by omega)) (fun g hg => hm _ (by have := k.lt g hg; omega))).keep hs (by simp; omega) (fun g hg => by have := k.lt g hg; simp; omega)
  have hch : Chg [b] w (u'.setCell ⟨xb, 1, none⟩ vc') := (k.chg.trans hc (fun g hg => .inr (by have := k.frc g (by simpa using hg); omega))).trans hs (fun g hg => .inr (by simp at hg; omega))
  exact ⟨⟨blk_cell hbox 0, blk_cell hxx 1, blk_free hxx 1⟩, hrd, k.lt, k.bl, hch, by rw [blk_set_other (by omega)]; exact hbox, by rw [blk_set_other (by omega)]; exact hres, by rw [blk_set hxx]; rfl, k.xge,
    hr.keep hs (fun g hg => by have := hfr g hg; simp; omega), (k.rowp.keep hc (fun g hg => fun hm' => k.ne g (by simpa using hm') hg)).keep hs (fun g hg => by have := k.frp g hg; simp; omega), hfr, k.frp, hne⟩
theorem TH.putp (k : TH w u b l ao cap p h bd xb nm vc vp rc rp jc jp cc cp) (hr : Row u' 63 2 vp' rp' jp' cp') (hc : Chg rp.toList u u') (hf : Fresh u rp rp') :
    (u'.cell? ⟨w.heap.size, 0, none⟩ = some (.pointer (some ⟨b, 0, none⟩)) ∧ u'.cell? ⟨xb, 2, none⟩ = some vp ∧ u'.frozen? ⟨xb, 2, none⟩ = false) ∧ TH w (u'.setCell ⟨xb, 2, none⟩ vp') b l ao cap p h bd xb nm vc vp' rc rp' jc jp' cc cp' := by
  have hx := k.xge
  have hb := k.bl
  have hm : ∀ g, g < w.heap.size + 2 ∨ g = xb → g ∉ rp.toList := fun g hg hm => by
    have := k.frp g (by simpa using hm)
    omega
  have hbox := hc.heap k.box (hm _ (by omega))
  have hres := hc.heap k.res (hm _ (by omega))
  have hxx := hc.heap k.x (hm _ (by omega))
  have hxl := blk_lt k.x
  have hfr : ∀ g, rp' = some g → w.heap.size + 2 ≤ g ∧ g ≠ xb := fun g hg => by
    rcases hf g hg with h1 | h1
    · exact k.frp g h1
    · omega
  have hne : ∀ g, rc = some g → rp' ≠ some g := fun g hg e => by
    rcases hf g e with h1 | h1
    · exact k.ne g hg h1
    · have := k.rowc.lt g hg; omega
  have hs : Chg [xb] u' (u'.setCell ⟨xb, 2, none⟩ vp') := (Chg.refl [xb] u').setCell (p := ⟨xb, 2, none⟩) (.inl (by simp)) _
  have hrd := (k.rd.keep hc (hm _ (by omega)) (fun g hg => hm _ (by have := k.lt g hg; omega))).keep hs (by simp; omega) (fun g hg => by have := k.lt g hg; simp; omega)
  have hch : Chg [b] w (u'.setCell ⟨xb, 2, none⟩ vp') := (k.chg.trans hc (fun g hg => .inr (by have := k.frp g (by simpa using hg); omega))).trans hs (fun g hg => .inr (by simp at hg; omega))
  exact ⟨⟨blk_cell hbox 0, blk_cell hxx 2, blk_free hxx 2⟩, hrd, k.lt, k.bl, hch, by rw [blk_set_other (by omega)]; exact hbox, by rw [blk_set_other (by omega)]; exact hres, by rw [blk_set hxx]; rfl, k.xge,
    (k.rowc.keep hc (fun g hg => fun hm' => k.ne g hg (by simpa using hm'))).keep hs (fun g hg => by have := k.frc g hg; simp; omega), hr.keep hs (fun g hg => by have := hfr g hg; simp; omega), k.frc, hfr, hne⟩
end
theorem rShort_le (m : Nat) (l : List UInt8) (s : RS) : (rShort m l s).1 ≤ m := by
  unfold rShort
  repeat' split
  all_goals first | exact Nat.zero_le _ | omega
/-- A thread taken off, in new memory; or given up. -/
def DT (w : World) (b : Nat) (l : List UInt8) (ao : Option Addr) (cap : Nat) (R : Option (ThrD × Nat)) (e : Ending) (w' : World) : Prop :=
  (∃ (t : ThrD) (q : Nat) (vc vp : Value) (rc rp : Option Nat), R = some (t, q) ∧ e = .returned (.agg #[.string t.name, vc, vp]) ∧ Row w' 61 5 vc rc t.code.length (t.code.flatMap insC) ∧ Row w' 63 2 vp rp t.places.length (t.places.flatMap plcC) ∧
    Fresh w none rc ∧ Fresh w none rp ∧ Ok w' b l ao cap q ∧ Chg [b] w w') ∨ (R = none ∧ e = gaveUp ∧ Chg [b] w w')
/-- What the parse says between the rounds. -/
structure TP (l : List UInt8) (n p0 j : Nat) (line : Int) (q : Nat) (xs : List (InsD × PlcD)) : Prop where
  len : xs.length = j
  l0 : 0 ≤ line
  l1 : line ≤ 2147483647
  eq : rep (dIP l) nxIP n 0 p0 = (rep (dIP l) nxIP (n - j) line q).map fun t => (xs ++ t.1, t.2)
theorem TP.start (l : List UInt8) (n p0 : Nat) : TP l n p0 0 0 p0 [] := ⟨rfl, by omega, by omega, by simp⟩
theorem TP.step {l : List UInt8} {n p0 j : Nat} {line : Int} {q q2 : Nat} {xs : List (InsD × PlcD)} {x : InsD} {y : PlcD} (h : TP l n p0 j line q xs) (hj : j < n) (hd : dIP l line q = some ((x, y), q2)) (h0 : 0 ≤ y.line) (h1 : y.line ≤ 2147483647) :
    TP l n p0 (j + 1) y.line q2 (xs ++ [(x, y)]) := by
  refine ⟨by simp [h.len], h0, h1, ?_⟩
  rw [h.eq, show n - j = (n - (j + 1)) + 1 from by omega]
  simp only [rep, hd, Option.bind_some, Option.map_map]
  congr 1
  funext t
  simp [nxIP]
theorem TP.stop {l : List UInt8} {n p0 j : Nat} {line : Int} {q : Nat} {xs : List (InsD × PlcD)} (h : TP l n p0 j line q xs) (hj : j < n) (hd : dIP l line q = none) : rep (dIP l) nxIP n 0 p0 = none := by
  rw [h.eq, show n - j = (n - (j + 1)) + 1 from by omega]
  simp only [rep, hd, Option.bind_none, Option.map_none]
theorem TP.done {l : List UInt8} {n p0 : Nat} {line : Int} {q : Nat} {xs : List (InsD × PlcD)} (h : TP l n p0 n line q xs) : rep (dIP l) nxIP n 0 p0 = some (xs, q) := by
  rw [h.eq, Nat.sub_self]
  simp [rep]
theorem dIP_none1 {l : List UInt8} {line : Int} {q : Nat} (h : dIns l q = none) : dIP l line q = none := by unfold dIP; simp only [h, Option.bind_none]
theorem dIP_none2 {l : List UInt8} {line : Int} {q q1 : Nat} {x : InsD} (h : dIns l q = some (x, q1)) (h2 : sureP (rSigned l) (plcOk line) q1 = none) : dIP l line q = none := by
  unfold dIP dPlc; simp only [h, h2, Option.bind_some, Option.bind_none, Option.map_none]
theorem dIP_none3 {l : List UInt8} {line d : Int} {q q1 q2 : Nat} {x : InsD} (h : dIns l q = some (x, q1)) (h2 : sureP (rSigned l) (plcOk line) q1 = some (d, q2)) (h3 : sureP (rShort 2147483647 l) (fun _ => true) q2 = none) : dIP l line q = none := by
  unfold dIP dPlc; simp only [h, h2, h3, Option.bind_some, Option.map_none]
theorem dIP_some {l : List UInt8} {line d : Int} {q q1 q2 q3 c : Nat} {x : InsD} (h : dIns l q = some (x, q1)) (h2 : sureP (rSigned l) (plcOk line) q1 = some (d, q2)) (h3 : sureP (rShort 2147483647 l) (fun _ => true) q2 = some (c, q3)) : dIP l line q = some ((x, ⟨line + d, (c : Nat)⟩), q3) := by
  unfold dIP dPlc; simp only [h, h2, h3, Option.bind_some, Option.map_some]
theorem dThr_none {l : List UInt8} {q : Nat} (h : sureP (pHead l) (fun _ => true) q = none) : dThr l q = none := by unfold dThr; simp only [h, Option.bind_none, Option.map_none]
theorem dThr_none2 {l : List UInt8} {q p0 n : Nat} {nm : List UInt8} (h : sureP (pHead l) (fun _ => true) q = some ((nm, n), p0)) (h2 : rep (dIP l) nxIP n 0 p0 = none) : dThr l q = none := by unfold dThr; simp only [h, h2, Option.bind_some, Option.map_none]
theorem dThr_some {l : List UInt8} {q p0 n q2 : Nat} {nm : List UInt8} {xs : List (InsD × PlcD)} (h : sureP (pHead l) (fun _ => true) q = some ((nm, n), p0)) (h2 : rep (dIP l) nxIP n 0 p0 = some (xs, q2)) : dThr l q = some (⟨⟨nm.toArray⟩, xs.map Prod.fst, xs.map Prod.snd⟩, q2) := by unfold dThr; simp only [h, h2, Option.bind_some, Option.map_some]
theorem cc_step (xs : List (InsD × PlcD)) (x : InsD) (y : PlcD) : (xs.map Prod.fst).flatMap insC ++ insC x = ((xs ++ [(x, y)]).map Prod.fst).flatMap insC ∧ (xs.map Prod.snd).flatMap plcC ++ plcC y = ((xs ++ [(x, y)]).map Prod.snd).flatMap plcC := by simp
end Go.Proofs.Ytbikekgljabalaa
