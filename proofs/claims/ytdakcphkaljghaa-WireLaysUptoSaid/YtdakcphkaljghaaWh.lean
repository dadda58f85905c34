/- Walks of the wire layer: a step of the law's script on a writer. -/
import Derived.Test.YtdakcphkaljghaaWg
namespace Go.Proofs.Ytdakcphkaljghaa
open Go.RowKit Go.AB

/-- A step's value, its numbers in the slice v. -/
def addV (a : AddD) (v : Value) : Value := .agg #[.int .i64 a.kind, .int .i64 a.width, v, .string a.text]

section
variable (a : AddD) (ha : ∀ m ∈ a.many, U64 m) (v : Value) (w : World) (b : Nat) (r : Option Nat) (l : List UInt8) (ao0 : Option Addr) (cap0 : Nat) (hW : Wr 27 5 w b r l ao0 cap0) (hl : l.length ≤ 274877906944)
    (hv : View w 1 v a.many.length (a.many.map cU)) (hvb : 0 < a.many.length → ∀ g, v.ownBlock = some g → g ≠ b ∧ r ≠ some g) (hn : a.many.length ≤ 34359738000) (ht : a.text.size ≤ 274877906944)
include ha hW hl hv hvb hn ht

set_option maxHeartbeats 1000000 in
set_option maxRecDepth 100000 in
theorem lays_calls : Calls Try.prog 12 #[.pointer (some ⟨b, 0, none⟩), addV a v] w (ShortPost 27 5 w b r (l ++ laidB a)) := by
  obtain ⟨kind, width, many, text⟩ := a
  simp only at ha hv hvb hn ht
  have hb : ∀ o, Chg [] w (w.alloc o) := fun o => (Chg.refl _ _).alloc o
  have hWb := fun o => hW.keep (hb o) (by simp) (by simp)
  have hvv := fun o => hv.keep (hb o) (by simp)
  obtain ⟨ao, cap, rfl⟩ : ∃ ao cap, v = .slice ao many.length cap := by obtain ⟨_, _, ao, cap, h, _⟩ := hv; exact ⟨ao, cap, h⟩
  unfold addV
  by_cases h1 : kind = 1
  · subst h1
    go_enter Try.func12, Try.ntmps12
    go_wp2_with (go_at_call 35; refine (lawput_calls many ha _ _ b r l ao0 cap0 (hWb _) (by omega) (hvv _) hvb (by omega) width).mono ?_; rintro e w' ⟨rfl, hl2⟩)
    go_end0
    exact ⟨rfl, (hl2.of (hb _)).to (by simp [laidB])⟩
  by_cases h2 : kind = 2
  · subst h2
    go_enter Try.func12, Try.ntmps12
    go_wp2_with (go_at_call 18; refine (shorts_calls many ha _ _ b r l ao0 cap0 (hWb _) (by omega) (hvv _) hvb (by omega)).mono ?_; rintro e w' ⟨rfl, hl2⟩)
    go_end0
    exact ⟨rfl, (hl2.of (hb _)).to (by simp [laidB])⟩
  by_cases h3 : kind = 3
  · subst h3
    go_enter Try.func12, Try.ntmps12
    go_wp2_with (go_at_call 45; refine (numbers_calls many _ _ (hvv _) (by omega)).mono ?_; rintro e w1 ⟨u, r1, rfl, hr1, hc1, hf1⟩; refine halt (fun X hX => ?_))
    rw [hX.out]; clear hX
    have hW1 := (hWb (.cells #[.int .i64 3, .int .i64 width, .slice ao many.length cap, .string text] 35)).keep hc1 (by simp) (by simp)
    have hu : ∀ g, u.ownBlock = some g → w.heap.size ≤ g := fun g hg => by
      have := (hf1 g (hr1.blk.symm.trans hg)).resolve_left (by simp)
      simp at this; omega
    go_wp2_with (go_at_call 36; refine (signed_calls (many.map cv_i64) (by intro m hm; obtain ⟨x, _, rfl⟩ := List.mem_map.1 hm; exact cv_i64_I64 x) u _ b r l ao0 cap0 hW1 (by omega) (by rw [List.map_map, List.length_map]; exact hr1.view) (fun _ => lawput_apart hW u hu) (by rw [List.length_map]; omega)).mono ?_; rintro e w' ⟨rfl, hl2⟩)
    go_end0
    exact ⟨rfl, (hl2.of ((hb _).trans' hc1)).to (by simp [laidB, List.flatMap_map])⟩
  by_cases h4 : kind = 4
  · subst h4
    by_cases h0 : 0 < many.length
    all_goals
      go_enter Try.func12, Try.ntmps12
      go_wp2_with (go_at_call 26; refine (flag_calls _ _ b r l ao0 cap0 (hWb _) (by omega)).mono ?_; rintro e w' ⟨rfl, hl2⟩)
      go_end0
      exact ⟨rfl, (hl2.of (hb _)).to (by simp [laidB, h0])⟩
  by_cases h5 : kind = 5
  · subst h5
    go_enter Try.func12, Try.ntmps12
    go_wp2_with (go_at_call 39; refine (text_calls _ _ b r l ao0 cap0 (hWb _) (by omega) (by omega)).mono ?_; rintro e w' ⟨rfl, hl2⟩)
    go_end0
    exact ⟨rfl, (hl2.of (hb _)).to (by simp [laidB])⟩
  go_enter Try.func12, Try.ntmps12
  go_wp2
  go_end0
  exact ⟨rfl, l, r, ao0, cap0, hWb _, (hb _).nil, Fresh.refl _ _, hid (by simp [laidB, h1, h2, h3, h4, h5])⟩
end
end Go.Proofs.Ytdakcphkaljghaa
