/- The law's scripts of adds, al they come in; what they lay is not long. -/
import Derived.Test.YtdakcphkaljghaaLaw2
import Derived.Test.YtdakcphkaljghaaWh
namespace Go.Proofs.Ytdakcphkaljghaa
open Go.RowKit Go.AB

theorem View.own_lt {w : World} {k n : Nat} {v : Value} {xs : List Value} (h : View w k v n xs) (h0 : 0 < n * k) : ∀ g, v.ownBlock = some g → g < w.heap.size := by
  obtain ⟨_, _, ao, cap, rfl, _, _, _, hc⟩ := h
  obtain ⟨b, off, rfl, hcell⟩ := hc h0
  intro g hg
  simp only [Value.ownBlock, Option.some.injEq] at hg
  subst hg
  exact World.block_lt_of_cell? w _ (hcell 0 h0)

theorem Opens.map {α β : Type} {w : World} {t k : Nat} {R : α → List Value → Prop} {R' : β → List Value → Prop} {sz : α → Nat} {sz' : β → Nat} (f : α → β) (h : Opens w t k R sz) (hi : ∀ a cs, R a cs → R' (f a) cs ∧ sz' (f a) ≤ sz a) : Opens w t k R' sz' := by
  intro H enc base spare held fuel cs x hx
  obtain ⟨h1, a, h2, h3⟩ := h H enc base spare held fuel cs x hx
  exact ⟨h1, f a, (hi a cs h2).1, Nat.le_trans (hi a cs h2).2 h3⟩

def addR (W : World) (a : AddD) (cs : List Value) : Prop :=
  ∃ v, cs = [.int .i64 a.kind, .int .i64 a.width, v, .string a.text] ∧ View W 1 v a.many.length (a.many.map cU) ∧ ∀ m ∈ a.many, U64 m
def addSz (a : AddD) : Nat := a.many.length + a.text.size + 2

theorem opens_u64s (w : World) : Opens w 33 1 (fun (l : List Nat) cs => ∃ v, cs = [v] ∧ View w 1 v l.length (l.map cU) ∧ ∀ m ∈ l, U64 m) (fun l => l.length) := by
  intro H enc base spare held fuel cs x h
  obtain ⟨h1, xs, ⟨v, rfl, ⟨css, hv, hl, he⟩⟩, h3⟩ := opens_slice Try.underlying33 (by kernel_rfl) (opens_int Try.underlying41) H enc base spare held fuel cs x h
  have hx : ∀ i (hi : i < xs.length), 0 ≤ xs[i] ∧ xs[i] < 18446744073709551616 := fun i hi => wf_u64 (he i hi (by omega)).2.2
  refine ⟨h1, xs.map Int.toNat, ⟨v, rfl, ?_, ?_⟩, ?_⟩
  · have hfl : css.flatten = (xs.map Int.toNat).map cU := by
      apply List.ext_getElem
      · have := (flat_get (k := 1) css (fun i hi => (he i (by omega) hi).1)).1
        rw [this]; simp [hl]
      · intro i h4 h5
        have hi : i < xs.length := by simpa using h5
        have hc := (he i hi (by omega)).2
        have hfg := (flat_get (k := 1) css (fun i hi => (he i (by omega) hi).1)).2 i 0 (by omega) (by omega)
        simp only [Nat.mul_one, Nat.add_zero] at hfg
        rw [hc.1] at hfg
        have hxi := hx i hi
        simp only [List.getD, List.getElem?_eq_getElem h4, Option.getD_some, List.getElem?_cons_zero] at hfg
        rw [hfg]
        simp only [List.getElem_map, cU]
        congr 1
        omega
    rw [List.length_map, ← hfl]
    exact hv
  · intro m hm
    obtain ⟨n, hn, rfl⟩ := List.mem_map.1 hm
    obtain ⟨i, hi, rfl⟩ := List.mem_iff_getElem.1 hn
    have := hx i hi
    unfold U64; omega
  · have h4 := sum_ge (fun _ : Int => 1) xs (fun _ => by decide)
    have h5 : (xs.map (fun _ : Int => 1)).sum + 1 ≤ Rows.uptoBulk x.1 := h3
    simp only [List.length_map]
    omega
theorem opens_adds (w : World) : Opens w 23 1 (fun (al : List AddD) cs => ∃ v, cs = [v] ∧ VL w 4 (addR w) v al) (fun al => (al.map addSz).sum + 1) :=
  opens_slice Try.underlying23 (by kernel_rfl)
    ((opens_struct4 Try.underlying35 (by kernel_rfl) (by kernel_rfl) (by kernel_rfl) (by kernel_rfl) (by kernel_rfl) (opens_int Try.underlying3) (opens_int Try.underlying3) (opens_u64s w) (opens_string Try.underlying9)).map
      (fun p => (⟨p.1, p.2.1, p.2.2.1, p.2.2.2⟩ : AddD))
      (fun p cs h => by
        obtain ⟨c0, c1, c2, c3, rfl, ⟨h0, w0⟩, ⟨h1, w1⟩, ⟨v, h2, hv, hu⟩, h3⟩ := h
        simp only [List.cons.injEq, and_true] at h0 h1 h2 h3
        subst h0 h1 h2 h3
        exact ⟨⟨_, rfl, hv, hu⟩, by unfold addSz; simp only; omega⟩))
theorem fixedI_len (k : Int) (m : Nat) : (fixedB (sizeI k) m).length ≤ 10 := by
  rw [fixedB_length]
  unfold sizeI
  split
  · rename_i h
    obtain ⟨q, rfl⟩ := Int.eq_ofNat_of_zero_le h.1
    match q, h with
    | 0, _ | 1, _ | 2, _ | 3, _ | 4, _ | 5, _ | 6, _ | 7, _ => decide
    | q + 8, h => omega
  · decide
theorem laidB_len (a : AddD) (ha : ∀ m ∈ a.many, U64 m) (ht : a.text.size < 18446744073709551616) : (laidB a).length ≤ 10 * addSz a := by
  unfold laidB addSz
  split
  · have := flat_len_le 10 a.many (fixedB (sizeI a.width)) (fun m _ => fixedI_len _ m); omega
  split
  · have := flat_len_le 10 a.many shortB (fun m hm => shortB_len10 (ha m hm)); omega
  split
  · have := flat_len_le 10 a.many (fun m => shortB (zig (cv_i64 m))) (fun m _ => shortB_len10 (zig_U64 (cv_i64_I64 m))); omega
  split
  · simp; omega
  split
  · have h1 := shortB_len10 (v := a.text.size) ht
    have h2 : a.text.data.toList.length = a.text.size := by rw [Array.length_toList]; rfl
    rw [List.length_append]; omega
  · simp
theorem laidAll_len (al : List AddD) (ha : ∀ a ∈ al, (∀ m ∈ a.many, U64 m) ∧ a.text.size < 18446744073709551616) : (al.flatMap laidB).length ≤ 10 * (al.map addSz).sum := by
  induction al with
  | nil => simp
  | cons a al ih =>
    have h1 := laidB_len a (ha a (by simp)).1 (ha a (by simp)).2
    have h2 := ih fun b hb => ha b (by simp [hb])
    rw [List.flatMap_cons, List.length_append, List.map_cons, List.sum_cons]; omega
theorem mem_sum_le {α : Type} (f : α → Nat) {xs : List α} {x : α} (h : x ∈ xs) : f x ≤ (xs.map f).sum := by
  induction xs with
  | nil => cases h
  | cons y ys ih =>
    simp only [List.map_cons, List.sum_cons]
    cases List.mem_cons.1 h with
    | inl e => subst e; omega
    | inr e => have := ih e; omega

/-- What a round asks of the script: the k-th step's value where it stands, in whatever world has but new blocks more. -/
theorem add_at {W : World} {v : Value} {al : List AddD} (h : VL W 4 (addR W) v al) {ao : Option Addr} {cap : Nat} (hv : v = .slice ao al.length cap) {k : Nat} (hk : k < al.length) :
    ∃ b off u, ao = some ⟨b, off, none⟩ ∧ View W 1 u al[k].many.length (al[k].many.map cU) ∧ (∀ m ∈ al[k].many, U64 m) ∧ ∀ W', Below W.heap.size W W' →
      W'.cell? ⟨b, off + k * 4, none⟩ = some (.int .i64 al[k].kind) ∧ W'.cell? ⟨b, off + k * 4 + 1, none⟩ = some (.int .i64 al[k].width) ∧ W'.cell? ⟨b, off + k * 4 + 2, none⟩ = some u ∧ W'.cell? ⟨b, off + k * 4 + 3, none⟩ = some (.string al[k].text) := by
  obtain ⟨css, ⟨hfl, _, ao', cap', hv', _, _, _, hcells⟩, hcl, hcs⟩ := h
  rw [hv] at hv'
  simp only [Value.slice.injEq, true_and] at hv'
  obtain ⟨rfl, rfl⟩ := hv'
  obtain ⟨b, off, rfl, hcell⟩ := hcells (by omega)
  obtain ⟨hc4, u, hu, hview, hm⟩ := hcs k hk (by omega)
  have hfg := (flat_get (k := 4) css (fun i hi => (hcs i (by omega) hi).1)).2 k
  refine ⟨b, off, u, rfl, hview, hm, fun W' hb => ?_⟩
  have cj : ∀ j, j < 4 → W'.cell? ⟨b, off + k * 4 + j, none⟩ = some (css[k].getD j undef) := fun j hj => by
    have h1 := hcell (k * 4 + j) (by omega)
    rw [← hfg j (by omega) hj, Nat.add_assoc]
    exact (hb.cell (World.block_lt_of_cell? W _ h1)).trans h1
  rw [hu] at cj
  exact ⟨cj 0 (by omega), cj 1 (by omega), cj 2 (by omega), cj 3 (by omega)⟩
end Go.Proofs.Ytdakcphkaljghaa
