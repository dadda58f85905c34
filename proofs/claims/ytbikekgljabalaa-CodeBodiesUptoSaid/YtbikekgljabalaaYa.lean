/- The document's reader of programs, plain: what it takes off bytes, and that a program's bytes give that program. -/
import Derived.Test.YtbikekgljabalaaM06
import Derived.Test.YtbikekgljabalaaGd
namespace Go.Proofs.Ytbikekgljabalaa
open Go.RowKit Go.AB
set_option linter.unusedVariables false
set_option linter.unusedSimpArgs false

/-- So many, one behind the other, until there is a fault. -/
def repQ {α σ : Type} (f : σ → RS → α × RS) (nx : α → σ) : Nat → σ → RS → List α × RS
  | 0, _, r => ([], r)
  | n + 1, s, r => if r.bad = 0 then ((f s r).1 :: (repQ f nx n (nx (f s r).1) (f s r).2).1, (repQ f nx n (nx (f s r).1) (f s r).2).2) else ([], r)
theorem repQ_bwd {α σ : Type} {L : List UInt8} {f : σ → RS → α × RS} {nx : α → σ} {enc : σ → α → List UInt8} {ok : α → Prop} {V : σ → Prop}
    (h : ∀ s p x rest, V s → ok x → L.drop p = enc s x ++ rest → f s ⟨p, 0, 0⟩ = (x, ⟨p + (enc s x).length, 0, 0⟩)) (hn : ∀ x, ok x → V (nx x)) :
    ∀ (xs : List α) s p rest, V s → (∀ x ∈ xs, ok x) → L.drop p = encs enc nx s xs ++ rest → repQ f nx xs.length s ⟨p, 0, 0⟩ = (xs, ⟨p + (encs enc nx s xs).length, 0, 0⟩)
  | [], s, p, rest, _, _, _ => by simp [repQ, encs]
  | x :: xs, s, p, rest, hV, ho, hd => by
    simp only [encs, List.append_assoc] at hd
    have hx := ho x (by simp)
    have a := h s p x _ hV hx hd
    have b := repQ_bwd h hn xs (nx x) _ rest (hn x hx) (fun z hz => ho z (by simp [hz])) (drop_app hd)
    simp only [repQ, List.length_cons, a, b, if_true, encs, List.length_append, Nat.add_assoc]
/-- Between the rounds of a loop that takes so many. -/
structure RQ {α σ : Type} (f : σ → RS → α × RS) (nx : α → σ) (n : Nat) (s0 : σ) (r0 : RS) (j : Nat) (s : σ) (r : RS) (xs : List α) : Prop where
  len : xs.length = j
  eq : repQ f nx n s0 r0 = (xs ++ (repQ f nx (n - j) s r).1, (repQ f nx (n - j) s r).2)
section
variable {α σ : Type} {f : σ → RS → α × RS} {nx : α → σ} {n : Nat} {s0 : σ} {r0 : RS} {j : Nat} {s : σ} {r : RS} {xs : List α}
theorem RQ.start (f : σ → RS → α × RS) (nx : α → σ) (n : Nat) (s0 : σ) (r0 : RS) : RQ f nx n s0 r0 0 s0 r0 [] := ⟨rfl, by simp⟩
theorem RQ.step (h : RQ f nx n s0 r0 j s r xs) (hj : j < n) (hb : r.bad = 0) {x : α} {r' : RS} (hx : f s r = (x, r')) : RQ f nx n s0 r0 (j + 1) (nx x) r' (xs ++ [x]) := by
  refine ⟨by simp [h.len], ?_⟩
  rw [h.eq, show n - j = (n - (j + 1)) + 1 from by omega]
  simp only [repQ, hb, if_true, hx, List.append_assoc, List.cons_append, List.nil_append]
theorem RQ.done (h : RQ f nx n s0 r0 j s r xs) (hj : j = n ∨ r.bad ≠ 0) : repQ f nx n s0 r0 = (xs, r) := by
  rw [h.eq]
  have : repQ f nx (n - j) s r = ([], r) := by
    cases hk : n - j with
    | zero => rfl
    | succ k =>
      have hb := hj.resolve_left (by omega)
      simp [repQ, hb]
  rw [this]
  simp
end
/-! the parts -/
def qVar (L : List UInt8) (s : RS) : VarD × RS := (⟨⟨(rText 24 L s).1.toArray⟩, (rSigned L (rText 24 L s).2).1⟩, (rSigned L (rText 24 L s).2).2)
def qLock (L : List UInt8) (s : RS) : ByteArray × RS := (⟨(rText 24 L s).1.toArray⟩, (rText 24 L s).2)
def clipD (d : Int) : Int := if 4294967296 < d ∨ d < -4294967296 then -4294967296 else d
def qPlc (L : List UInt8) (line : Int) (s : RS) : PlcD × RS := (⟨line + clipD (rSigned L s).1, ((rShort 2147483647 L (rSigned L s).2).1 : Nat)⟩, (rShort 2147483647 L (rSigned L s).2).2)
def qIns (L : List UInt8) (line : Int) (s : RS) : (InsD × PlcD) × RS := ((insOf (pIns L s).1, (qPlc L line (pIns L s).2).1), (qPlc L line (pIns L s).2).2)
def spoilR (x : InsD × PlcD) (s : RS) : RS := if x.2.line < 0 ∨ 2147483647 < x.2.line then ⟨s.pos, s.wh, 101⟩ else s
def qIP (L : List UInt8) (line : Int) (s : RS) : (InsD × PlcD) × RS := ((qIns L line s).1, spoilR (qIns L line s).1 (qIns L line s).2)
def qMany {α : Type} (m : Nat) (L : List UInt8) (f : RS → α × RS) (s : RS) : List α × RS := repQ (fun _ : Unit => f) (fun _ => ()) (rShort m L s).1 () (rShort m L s).2
def qThr (L : List UInt8) (s : RS) : ThrD × RS :=
  (⟨⟨(rText 24 L s).1.toArray⟩, (repQ (qIP L) nxIP (rShort 4096 L (rText 24 L s).2).1 0 (rShort 4096 L (rText 24 L s).2).2).1.map Prod.fst, (repQ (qIP L) nxIP (rShort 4096 L (rText 24 L s).2).1 0 (rShort 4096 L (rText 24 L s).2).2).1.map Prod.snd⟩,
   (repQ (qIP L) nxIP (rShort 4096 L (rText 24 L s).2).1 0 (rShort 4096 L (rText 24 L s).2).2).2)
def qPrg (L : List UInt8) (s : RS) : PrgD × RS :=
  let a := qMany 4096 L (qVar L) s
  let b := qMany 4096 L (qVar L) a.2
  let c := qMany 4096 L (qLock L) b.2
  let d := qMany 4096 L (qVar L) c.2
  let e := qMany 65535 L (qThr L) d.2
  (⟨a.1, b.1, c.1, d.1, e.1⟩, e.2)

/-! what is laid is read -/
section
variable {L : List UInt8}
theorem qIns_bwd {line : Int} (hl : 0 ≤ line ∧ line ≤ 2147483647) {p : Nat} {x : InsD × PlcD} {rest : List UInt8} (hx : insB x.1 = true ∧ I64 x.1.n) (hp : plcB x.2 = true) (hd : L.drop p = (insH x.1 ++ plcL line x.2) ++ rest) :
    qIns L line ⟨p, 0, 0⟩ = (x, ⟨p + (insH x.1 ++ plcL line x.2).length, 0, 0⟩) := by
  obtain ⟨i, pl⟩ := x
  simp only at hx hp hd ⊢
  have hpl : p ≤ L.length := by
    by_cases h : p ≤ L.length
    · exact h
    · rw [List.drop_eq_nil_of_le (by omega)] at hd
      have := congrArg List.length hd
      simp [insH] at this <;> omega
  have hd1 : L.drop p = insH i ++ (plcL line pl ++ rest) := by rw [hd, List.append_assoc]
  have k := c_ins.bwd p i _ hx hd1
  have hpi := (p_byte (L := L)).pair (fun op => ((p_byte (L := L)).opt (nA op) 0).pair (fun _ => ((p_byte (L := L)).opt (nC op) 0).pair (fun _ => (p_signed (L := L)).opt (nN op) 0)))
  unfold dIns at k
  rcases hs : sureP (pIns L) (fun r => insB (insOf r)) p with _ | ⟨y, q⟩
  · rw [hs] at k; simp at k
  · rw [hs] at k
    simp only [Option.map_some, Option.some.injEq, Prod.mk.injEq] at k
    obtain ⟨k1, k2⟩ := k
    have hf : pIns L ⟨p, 0, 0⟩ = (y, ⟨q, 0, 0⟩) := by
      unfold sureP at hs
      split at hs
      · rename_i hc
        simp only [Option.some.injEq, Prod.mk.injEq] at hs
        have hw := (hpi.fwd ⟨p, 0, 0⟩ hpl hc.1).1
        replace hw : (pIns L ⟨p, 0, 0⟩).2.wh = 0 := hw
        rcases hr : pIns L ⟨p, 0, 0⟩ with ⟨x', pos, wh, bad⟩
        rw [hr] at hs hw hc
        obtain ⟨rfl, rfl⟩ := hs
        obtain rfl : wh = 0 := hw
        obtain rfl : bad = 0 := hc.1
        rfl
      · cases hs
    subst k2
    have hd2 := drop_app hd1
    obtain ⟨u1, u2, u3, u4⟩ : 0 ≤ pl.line ∧ pl.line ≤ 2147483647 ∧ 0 ≤ pl.col ∧ pl.col ≤ 2147483647 := by
      simp only [plcB, Bool.and_eq_true, decide_eq_true_eq] at hp
      omega
    unfold plcL at hd2
    rw [List.append_assoc] at hd2
    have a := (p_signed (L := L)).bwd _ 0 (pl.line - line) _ (by unfold I64; omega) hd2
    have b := (p_short (L := L) 2147483647).bwd _ 0 pl.col.toNat rest ⟨by omega, by unfold U64; omega⟩ (drop_app hd2)
    unfold qIns qPlc
    simp only [hf, k1, a, b]
    have hcl : clipD (pl.line - line) = pl.line - line := by unfold clipD; rw [if_neg (by omega)]
    rw [hcl, show line + (pl.line - line) = pl.line from by omega, Int.toNat_of_nonneg u3]
    simp only [plcL, List.length_append, Nat.add_assoc]
theorem qIP_bwd {line : Int} (hl : 0 ≤ line ∧ line ≤ 2147483647) {p : Nat} {x : InsD × PlcD} {rest : List UInt8} (hx : (insB x.1 = true ∧ I64 x.1.n) ∧ plcB x.2 = true) (hd : L.drop p = (insH x.1 ++ plcL line x.2) ++ rest) :
    qIP L line ⟨p, 0, 0⟩ = (x, ⟨p + (insH x.1 ++ plcL line x.2).length, 0, 0⟩) := by
  have h := qIns_bwd hl hx.1 hx.2 hd
  unfold qIP spoilR
  rw [h]
  have hp := hx.2
  simp only [plcB, Bool.and_eq_true, decide_eq_true_eq] at hp
  rw [if_neg (by simp only; omega)]
theorem qMany_bwd {α : Type} {m : Nat} {f : RS → α × RS} {enc : α → List UInt8} {ok : α → Prop} (hm : m < 18446744073709551616) (h : ∀ p x rest, ok x → L.drop p = enc x ++ rest → f ⟨p, 0, 0⟩ = (x, ⟨p + (enc x).length, 0, 0⟩)) {xs : List α} {p : Nat} {rest : List UInt8} (hx : xs.length ≤ m ∧ ∀ x ∈ xs, ok x)
    (hd : L.drop p = (shortB xs.length ++ xs.flatMap enc) ++ rest) : qMany m L f ⟨p, 0, 0⟩ = (xs, ⟨p + (shortB xs.length ++ xs.flatMap enc).length, 0, 0⟩) := by
  rw [List.append_assoc] at hd
  have a := (p_short (L := L) m).bwd p 0 xs.length _ ⟨hx.1, by unfold U64; omega⟩ hd
  have b := repQ_bwd (L := L) (f := fun _ : Unit => f) (nx := fun _ => ()) (enc := fun _ => enc) (ok := ok) (V := fun _ => True) (fun _ p x rest _ => h p x rest) (fun _ _ => trivial) xs () _ rest trivial hx.2 (by rw [encs_flat]; exact drop_app hd)
  unfold qMany
  simp only [a, b, encs_flat, List.length_append, Nat.add_assoc]
end
section
variable {L : List UInt8} (hL : L.length < 18446744073709551616)
include hL
theorem qVar_bwd {p : Nat} {x : VarD} {rest : List UInt8} (hx : x.name.size ≤ 24 ∧ I64 x.first) (hd : L.drop p = varB x ++ rest) : qVar L ⟨p, 0, 0⟩ = (x, ⟨p + (varB x).length, 0, 0⟩) := by
  obtain ⟨l, h1, h2⟩ := arr_ex x.name
  obtain ⟨nm, fi⟩ := x
  simp only at hx hd h1 h2 ⊢
  subst h1
  unfold varB at hd ⊢
  simp only [textB_of] at hd ⊢
  rw [List.append_assoc] at hd
  have a := (p_text hL).bwd p 0 l _ (by omega) hd
  have b := (p_signed (L := L)).bwd _ 0 fi rest hx.2 (drop_app hd)
  unfold qVar
  rw [a]
  dsimp only
  rw [b]
  simp only [List.length_append, Nat.add_assoc]
theorem qLock_bwd {p : Nat} {x : ByteArray} {rest : List UInt8} (hx : x.size ≤ 24) (hd : L.drop p = textB x ++ rest) : qLock L ⟨p, 0, 0⟩ = (x, ⟨p + (textB x).length, 0, 0⟩) := by
  obtain ⟨l, h1, h2⟩ := arr_ex x
  subst h1
  rw [textB_of] at hd ⊢
  have a := (p_text hL).bwd p 0 l _ (by omega) hd
  unfold qLock
  simp only [a]
theorem qThr_bwd {p : Nat} {x : ThrD} {rest : List UInt8} (hx : thrB x = true ∧ ∀ y ∈ x.code, I64 y.n) (hd : L.drop p = thrL x ++ rest) : qThr L ⟨p, 0, 0⟩ = (x, ⟨p + (thrL x).length, 0, 0⟩) := by
  obtain ⟨nm, code, places⟩ := x
  obtain ⟨ht, hn⟩ := hx
  simp only [thrB, Bool.and_eq_true, decide_eq_true_eq, List.all_eq_true] at ht
  obtain ⟨⟨⟨t1, t2⟩, t3⟩, t4, t5⟩ := ht
  obtain ⟨l, h1, h2⟩ := arr_ex nm
  subst h1
  have hz : (code.zip places).length = code.length := by simp only [List.length_zip]; omega
  have he : thrL ⟨⟨l.toArray⟩, code, places⟩ = (shortB l.length ++ l) ++ (shortB code.length ++ encs (fun line x => insH x.1 ++ plcL line x.2) nxIP 0 (code.zip places)) := by
    unfold thrL
    rw [encs_ip, List.map_fst_zip (by omega), List.map_snd_zip (by omega)]
    simp only [textB_of, List.append_assoc]
  rw [he] at hd ⊢
  rw [List.append_assoc, List.append_assoc] at hd
  have hd' : L.drop p = (shortB l.length ++ l) ++ (shortB code.length ++ (encs (fun line x => insH x.1 ++ plcL line x.2) nxIP 0 (code.zip places) ++ rest)) := by rw [hd]; simp only [List.append_assoc]
  have a := (p_text hL).bwd p 0 l _ (by rw [h2]; exact t1) hd'
  have d1 := drop_app hd'
  have b := (p_short (L := L) 4096).bwd _ 0 code.length _ ⟨t2, by unfold U64; omega⟩ d1
  have d2 := drop_app d1
  have c := repQ_bwd (L := L) (f := qIP L) (nx := nxIP) (enc := fun line x => insH x.1 ++ plcL line x.2) (ok := fun x => (insB x.1 = true ∧ I64 x.1.n) ∧ plcB x.2 = true) (V := fun line : Int => 0 ≤ line ∧ line ≤ 2147483647)
    (fun s p x rest hV hx hd => qIP_bwd hV hx hd) (fun x hx => by
      have hp := hx.2
      simp only [plcB, Bool.and_eq_true, decide_eq_true_eq] at hp
      unfold nxIP
      omega) (code.zip places) 0 _ rest (by omega) (fun x hx => by
      have hz := List.of_mem_zip (a := x.1) (b := x.2) hx
      exact ⟨⟨t4 _ hz.1, hn _ hz.1⟩, t5 _ hz.2⟩) d2
  rw [hz] at c
  unfold qThr
  rw [a]
  dsimp only
  rw [b]
  dsimp only
  rw [c]
  simp only [Prod.mk.injEq, ThrD.mk.injEq, RS.mk.injEq, true_and, and_true, List.length_append, Nat.add_assoc]
  exact ⟨List.map_fst_zip (by omega), List.map_snd_zip (by omega)⟩
theorem qPrg_bwd {x : PrgD} (hg : prgB x = true) (hw : Wf64 x) (he : L = bodyL x) : qPrg L ⟨0, 0, 0⟩ = (x, ⟨L.length, 0, 0⟩) := by
  have hb' := hg
  unfold prgB varsB locksB at hb'
  simp only [Bool.and_eq_true, decide_eq_true_eq, List.all_eq_true] at hb'
  obtain ⟨⟨⟨⟨⟨h1, h2⟩, h3⟩, h4⟩, h5⟩, h6, h7⟩ := hb'
  have hd : L.drop 0 = bodyL x ++ [] := by rw [List.drop_zero, List.append_nil]; exact he
  have hlen : L.length = (bodyL x).length := congrArg List.length he
  rw [hlen]
  simp only [bodyL, varsL, List.append_assoc] at hd
  have hv : ∀ p (v : VarD) rest, (v.name.size ≤ 24 ∧ I64 v.first) → L.drop p = varB v ++ rest → qVar L ⟨p, 0, 0⟩ = (v, ⟨p + (varB v).length, 0, 0⟩) := fun p v rest => qVar_bwd hL
  have hk : ∀ p (v : ByteArray) rest, v.size ≤ 24 → L.drop p = textB v ++ rest → qLock L ⟨p, 0, 0⟩ = (v, ⟨p + (textB v).length, 0, 0⟩) := fun p v rest => qLock_bwd hL
  have ht : ∀ p (v : ThrD) rest, (thrB v = true ∧ ∀ y ∈ v.code, I64 y.n) → L.drop p = thrL v ++ rest → qThr L ⟨p, 0, 0⟩ = (v, ⟨p + (thrL v).length, 0, 0⟩) := fun p v rest => qThr_bwd hL
  have a := qMany_bwd (m := 4096) (by omega) hv (xs := x.vars) ⟨h1.1, fun v hv => ⟨h1.2 v hv, hw.vars v hv⟩⟩ (by rw [hd, List.append_assoc])
  have d1 := drop_app (x := shortB x.vars.length ++ x.vars.flatMap varB) (by rw [hd, List.append_assoc])
  have b := qMany_bwd (m := 4096) (by omega) hv (xs := x.vols) ⟨h2.1, fun v hv => ⟨h2.2 v hv, hw.vols v hv⟩⟩ (by rw [d1, List.append_assoc])
  have d2 := drop_app (x := shortB x.vols.length ++ x.vols.flatMap varB) (by rw [d1, List.append_assoc])
  have c := qMany_bwd (m := 4096) (by omega) hk (xs := x.locks) h3 (by rw [d2, List.append_assoc])
  have d3 := drop_app (x := shortB x.locks.length ++ x.locks.flatMap textB) (by rw [d2, List.append_assoc])
  have d := qMany_bwd (m := 4096) (by omega) hv (xs := x.bars) ⟨h4.1, fun v hv => ⟨h4.2 v hv, hw.bars v hv⟩⟩ (by rw [d3, List.append_assoc])
  have d4 := drop_app (x := shortB x.bars.length ++ x.bars.flatMap varB) (by rw [d3, List.append_assoc])
  have e := qMany_bwd (m := 65535) (by omega) ht (xs := x.thrs) ⟨h5, fun t ht => ⟨h6 t ht, hw.thrs t ht⟩⟩ (by rw [d4, List.append_assoc])
  unfold qPrg
  dsimp only
  rw [a]
  dsimp only
  rw [b]
  dsimp only
  rw [c]
  dsimp only
  rw [d]
  dsimp only
  rw [e]
  simp only [Prod.mk.injEq, RS.mk.injEq, and_true, true_and, bodyL, varsL, List.length_append]
  omega
end
/-! sizes -/
theorem rText_le (L : List UInt8) (s : RS) : (rText 24 L s).1.length ≤ 24 := by
  unfold rText
  repeat' split
  all_goals first | (simp; done) | (simp only [List.length_take, List.length_drop]; omega)
theorem rSigned_I64 (L : List UInt8) (s : RS) : I64 (rSigned L s).1 := unzig_I64 (rShort_U64 _ L s)
theorem repQ_len {α σ : Type} (f : σ → RS → α × RS) (nx : α → σ) : ∀ n s r, (repQ f nx n s r).1.length ≤ n
  | 0, _, _ => by simp [repQ]
  | n + 1, s, r => by
    unfold repQ
    split
    · simpa using repQ_len f nx n _ _
    · simp
theorem repQ_all {α σ : Type} {f : σ → RS → α × RS} {nx : α → σ} {P : α → Prop} (h : ∀ s r, P (f s r).1) : ∀ n s r, ∀ x ∈ (repQ f nx n s r).1, P x
  | 0, _, _ => by simp [repQ]
  | n + 1, s, r => by
    unfold repQ
    split
    · intro x hx
      rcases List.mem_cons.1 hx with rfl | hx
      · exact h _ _
      · exact repQ_all h n _ _ x hx
    · simp
theorem qMany_len {α : Type} (m : Nat) (L : List UInt8) (f : RS → α × RS) (s : RS) : (qMany m L f s).1.length ≤ m := Nat.le_trans (repQ_len _ _ _ _ _) (rShort_le m L s)
theorem qMany_all {α : Type} {P : α → Prop} {f : RS → α × RS} (h : ∀ r, P (f r).1) (m : Nat) (L : List UInt8) (s : RS) : ∀ x ∈ (qMany m L f s).1, P x := repQ_all (fun _ r => h r) _ _ _
theorem qVar_all (L : List UInt8) (r : RS) : (qVar L r).1.name.size ≤ 24 ∧ I64 (qVar L r).1.first := ⟨by unfold qVar; rw [toArray_size]; exact rText_le L r, rSigned_I64 _ _⟩
theorem qLock_all (L : List UInt8) (r : RS) : (qLock L r).1.size ≤ 24 := by unfold qLock; rw [toArray_size]; exact rText_le L r
theorem pIns_I64 (L : List UInt8) (s : RS) : I64 (pIns L s).1.2.2.2 := by
  unfold pIns
  simp only
  split
  · exact rSigned_I64 _ _
  · unfold I64; simp
theorem qThr_all (L : List UInt8) (r : RS) : ((qThr L r).1.name.size ≤ 24 ∧ (qThr L r).1.code.length ≤ 4096 ∧ (qThr L r).1.places.length ≤ 4096) ∧ ∀ x ∈ (qThr L r).1.code, I64 x.n := by
  unfold qThr
  have hn := Nat.le_trans (repQ_len (qIP L) nxIP (rShort 4096 L (rText 24 L r).2).1 0 (rShort 4096 L (rText 24 L r).2).2) (rShort_le 4096 L _)
  refine ⟨⟨by rw [toArray_size]; exact rText_le L r, by simpa using hn, by simpa using hn⟩, fun x hx => ?_⟩
  obtain ⟨y, hy, rfl⟩ := List.mem_map.1 hx
  exact repQ_all (P := fun y : InsD × PlcD => I64 y.1.n) (fun s r => pIns_I64 L r) _ _ _ y hy
theorem qPrg_eq (L : List UInt8) (s : RS) : ∃ s1 s2 s3 s4 s5, (qPrg L s).1 = ⟨(qMany 4096 L (qVar L) s1).1, (qMany 4096 L (qVar L) s2).1, (qMany 4096 L (qLock L) s3).1, (qMany 4096 L (qVar L) s4).1, (qMany 65535 L (qThr L) s5).1⟩ := ⟨_, _, _, _, _, rfl⟩
theorem m_vars (L : List UInt8) (s : RS) : (qMany 4096 L (qVar L) s).1.length ≤ 4096 ∧ ∀ x ∈ (qMany 4096 L (qVar L) s).1, x.name.size ≤ 24 ∧ I64 x.first := ⟨qMany_len 4096 L (qVar L) s, qMany_all (P := fun x : VarD => x.name.size ≤ 24 ∧ I64 x.first) (qVar_all L) 4096 L s⟩
theorem m_locks (L : List UInt8) (s : RS) : (qMany 4096 L (qLock L) s).1.length ≤ 4096 ∧ ∀ x ∈ (qMany 4096 L (qLock L) s).1, x.size ≤ 24 := ⟨qMany_len 4096 L (qLock L) s, qMany_all (P := fun x : ByteArray => x.size ≤ 24) (qLock_all L) 4096 L s⟩
theorem m_thrs (L : List UInt8) (s : RS) : (qMany 65535 L (qThr L) s).1.length ≤ 65535 ∧ ∀ x ∈ (qMany 65535 L (qThr L) s).1, (x.name.size ≤ 24 ∧ x.code.length ≤ 4096 ∧ x.places.length ≤ 4096) ∧ ∀ y ∈ x.code, I64 y.n :=
  ⟨qMany_len 65535 L (qThr L) s, qMany_all (P := fun x : ThrD => (x.name.size ≤ 24 ∧ x.code.length ≤ 4096 ∧ x.places.length ≤ 4096) ∧ ∀ y ∈ x.code, I64 y.n) (qThr_all L) 65535 L s⟩
theorem q_small (L : List UInt8) (s : RS) : SmallP (qPrg L s).1 := by
  obtain ⟨s1, s2, s3, s4, s5, he⟩ := qPrg_eq L s
  rw [he]
  have v1 := m_vars L s1
  have v2 := m_vars L s2
  have v3 := m_locks L s3
  have v4 := m_vars L s4
  have v5 := m_thrs L s5
  generalize (qMany 4096 L (qVar L) s1).1 = y1 at *
  generalize (qMany 4096 L (qVar L) s2).1 = y2 at *
  generalize (qMany 4096 L (qLock L) s3).1 = y3 at *
  generalize (qMany 4096 L (qVar L) s4).1 = y4 at *
  generalize (qMany 65535 L (qThr L) s5).1 = y5 at *
  clear he
  exact ⟨by simp only; omega, by simp only; omega, by simp only; omega, by simp only; omega, by simp only; omega, fun x hx => by have := (v1.2 x hx).1; omega, fun x hx => by have := (v2.2 x hx).1; omega, fun x hx => by have := v3.2 x hx; omega, fun x hx => by have := (v4.2 x hx).1; omega, fun x hx => by have := (v5.2 x hx).1; exact ⟨by omega, by omega, by omega⟩⟩
theorem q_wf (L : List UInt8) (s : RS) : Wf64 (qPrg L s).1 := by
  obtain ⟨s1, s2, s3, s4, s5, he⟩ := qPrg_eq L s
  rw [he]
  have v1 := m_vars L s1
  have v2 := m_vars L s2
  have v4 := m_vars L s4
  have v5 := m_thrs L s5
  generalize (qMany 4096 L (qVar L) s1).1 = y1 at *
  generalize (qMany 4096 L (qVar L) s2).1 = y2 at *
  generalize (qMany 4096 L (qVar L) s4).1 = y4 at *
  generalize (qMany 65535 L (qThr L) s5).1 = y5 at *
  clear he
  exact ⟨fun x hx => (v1.2 x hx).2, fun x hx => (v2.2 x hx).2, fun x hx => (v4.2 x hx).2, fun x hx => (v5.2 x hx).2⟩
end Go.Proofs.Ytbikekgljabalaa
