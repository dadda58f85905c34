/- Walks of the wire layer: a step of the law's script on a writer, and what it lays by the document. -/
import Derived.Test.YtdakcphkaljghaaWf
namespace Go.Proofs.Ytdakcphkaljghaa
open Go.RowKit Go.AB

/-- A step of a script. -/
structure AddD where
  kind : Int
  width : Int
  many : List Nat
  text : ByteArray
def laidB (a : AddD) : List UInt8 :=
  if a.kind = 1 then a.many.flatMap (fixedB (sizeI a.width))
  else if a.kind = 2 then a.many.flatMap shortB
  else if a.kind = 3 then a.many.flatMap fun m => shortB (zig (cv_i64 m))
  else if a.kind = 4 then [if 0 < a.many.length then 1 else 0]
  else if a.kind = 5 then shortB a.text.size ++ a.text.data.toList
  else []

theorem map_view {w : World} {v : Value} {n : Nat} {xs : List Nat} {f g : Nat → Value} (h : View w 1 v n (xs.map f)) (he : ∀ x ∈ xs, f x = g x) : View w 1 v n (xs.map g) := by
  rwa [List.map_congr_left he] at h
theorem flat_congr {α : Type} (xs : List α) (f g : α → List UInt8) (he : ∀ x ∈ xs, f x = g x) : xs.flatMap f = xs.flatMap g := by
  induction xs with
  | nil => rfl
  | cons x xs ih => rw [List.flatMap_cons, List.flatMap_cons, he x (by simp), ih fun y hy => he y (by simp [hy])]

theorem cv_i64_I64 (m : Nat) : I64 (cv_i64 m) := by
  unfold I64 cv_i64
  have := IntKind.wrap_i64 (m : Int)
  simp only [wrap64]
  omega

theorem low_i8 (m : Nat) : lowU (cv_i8 m) % 256 ^ 1 = m % 256 ^ 1 := by
  show lowU (cv_i8 m) % 256 = m % 256
  have : cv_i8 m % 256 = (m : Int) % 256 := by unfold cv_i8; simp only [IntKind.wrap, IntKind.bits, IntKind.signed]; simp; split <;> omega
  unfold lowU; omega
theorem low_i16 (m : Nat) : lowU (cv_i16 m) % 256 ^ 2 = m % 256 ^ 2 := by
  show lowU (cv_i16 m) % 65536 = m % 65536
  have : cv_i16 m % 65536 = (m : Int) % 65536 := by unfold cv_i16; simp only [IntKind.wrap, IntKind.bits, IntKind.signed]; simp; split <;> omega
  unfold lowU; omega
theorem low_i32 (m : Nat) : lowU (cv_i32 m) % 256 ^ 4 = m % 256 ^ 4 := by
  show lowU (cv_i32 m) % 4294967296 = m % 4294967296
  have : cv_i32 m % 4294967296 = (m : Int) % 4294967296 := by unfold cv_i32 wrap32; omega
  unfold lowU; omega
theorem low_i64 (m : Nat) : lowU (cv_i64 m) % 256 ^ 8 = m % 256 ^ 8 := by
  show lowU (cv_i64 m) % 18446744073709551616 = m % 18446744073709551616
  have : cv_i64 m % 18446744073709551616 = (m : Int) % 18446744073709551616 := by unfold cv_i64 wrap64; omega
  unfold lowU; omega

theorem lawput_apart {T U : Nat} {w : World} {b : Nat} {r : Option Nat} {l : List UInt8} {ao0 : Option Addr} {cap0 : Nat} (hW : Wr T U w b r l ao0 cap0) (u : Value) (hu : ∀ g, u.ownBlock = some g → w.heap.size ≤ g) : ∀ g, u.ownBlock = some g → g ≠ b ∧ r ≠ some g := fun g hg => by
  have h1 := hu g hg
  have hlt := blk_lt hW.blk
  exact ⟨by omega, fun e => by have := hW.row.lt g e; omega⟩

section
variable (xs : List Nat) (hxs : ∀ m ∈ xs, U64 m) (v : Value) (w : World) (b : Nat) (r : Option Nat) (l : List UInt8) (ao0 : Option Addr) (cap0 : Nat) (hW : Wr 27 5 w b r l ao0 cap0) (hl : l.length ≤ 549755813888)
    (hv : View w 1 v xs.length (xs.map cU)) (hvb : 0 < xs.length → ∀ g, v.ownBlock = some g → g ≠ b ∧ r ≠ some g) (hn : xs.length ≤ 34359738000)
include hW hl hv hn
theorem lawput_w0 : Calls Try.prog 35 #[.pointer (some ⟨b, 0, none⟩), .int .i64 0, v] w (ShortPost 27 5 w b r (l ++ xs.flatMap (fixedB 1))) := by
  refine lawput_i8 _ xs v w _ hv hn (fun W u hc hu hub => ((put_i8 (xs.map cv_i8) u W b r l ao0 cap0 (hW.keep hc (by simp) (by simp)) (by omega) (by rw [List.map_map, List.length_map]; exact hu) (fun _ => lawput_apart hW u hub) (by rw [List.length_map]; omega)).mono ?_))
  rintro e w' ⟨he, hl2⟩
  refine ⟨he, (hl2.of hc).to ?_⟩
  rw [List.flatMap_map]
  exact congrArg (l ++ ·) (flat_congr _ _ _ fun m _ => fixedB_congr 1 _ _ (low_i8 m))
theorem lawput_w1 : Calls Try.prog 35 #[.pointer (some ⟨b, 0, none⟩), .int .i64 1, v] w (ShortPost 27 5 w b r (l ++ xs.flatMap (fixedB 2))) := by
  refine lawput_i16 _ xs v w _ hv hn (fun W u hc hu hub => ((put_i16 (xs.map cv_i16) u W b r l ao0 cap0 (hW.keep hc (by simp) (by simp)) (by omega) (by rw [List.map_map, List.length_map]; exact hu) (fun _ => lawput_apart hW u hub) (by rw [List.length_map]; omega)).mono ?_))
  rintro e w' ⟨he, hl2⟩
  refine ⟨he, (hl2.of hc).to ?_⟩
  rw [List.flatMap_map]
  exact congrArg (l ++ ·) (flat_congr _ _ _ fun m _ => fixedB_congr 2 _ _ (low_i16 m))
theorem lawput_w2 : Calls Try.prog 35 #[.pointer (some ⟨b, 0, none⟩), .int .i64 2, v] w (ShortPost 27 5 w b r (l ++ xs.flatMap (fixedB 4))) := by
  refine lawput_i32 _ xs v w _ hv hn (fun W u hc hu hub => ((put_i32 (xs.map cv_i32) u W b r l ao0 cap0 (hW.keep hc (by simp) (by simp)) (by omega) (by rw [List.map_map, List.length_map]; exact hu) (fun _ => lawput_apart hW u hub) (by rw [List.length_map]; omega)).mono ?_))
  rintro e w' ⟨he, hl2⟩
  refine ⟨he, (hl2.of hc).to ?_⟩
  rw [List.flatMap_map]
  exact congrArg (l ++ ·) (flat_congr _ _ _ fun m _ => fixedB_congr 4 _ _ (low_i32 m))
theorem lawput_w3 : Calls Try.prog 35 #[.pointer (some ⟨b, 0, none⟩), .int .i64 3, v] w (ShortPost 27 5 w b r (l ++ xs.flatMap (fixedB 8))) := by
  refine lawput_i64 _ xs v w _ hv hn (fun W u hc hu hub => ((put_i64 (xs.map cv_i64) u W b r l ao0 cap0 (hW.keep hc (by simp) (by simp)) (by omega) (by rw [List.map_map, List.length_map]; exact hu) (fun _ => lawput_apart hW u hub) (by rw [List.length_map]; omega)).mono ?_))
  rintro e w' ⟨he, hl2⟩
  refine ⟨he, (hl2.of hc).to ?_⟩
  rw [List.flatMap_map]
  exact congrArg (l ++ ·) (flat_congr _ _ _ fun m _ => fixedB_congr 8 _ _ (low_i64 m))
theorem lawput_w4 : Calls Try.prog 35 #[.pointer (some ⟨b, 0, none⟩), .int .i64 4, v] w (ShortPost 27 5 w b r (l ++ xs.flatMap (fixedB 1))) := by
  refine lawput_u8 _ xs v w _ hv hn (fun W u hc hu hub => ((put_u8 (xs.map (· % 256)) (by intro m hm; obtain ⟨x, _, rfl⟩ := List.mem_map.1 hm; omega) u W b r l ao0 cap0 (hW.keep hc (by simp) (by simp)) (by omega) (by rw [List.map_map, List.length_map]; simpa [cv_u8, Function.comp_def] using hu) (fun _ => lawput_apart hW u hub) (by rw [List.length_map]; omega)).mono ?_))
  rintro e w' ⟨he, hl2⟩
  refine ⟨he, (hl2.of hc).to ?_⟩
  rw [List.flatMap_map]
  exact congrArg (l ++ ·) (flat_congr _ _ _ fun m _ => fixedB_congr 1 _ _ (Nat.mod_mod _ _))
theorem lawput_w5 : Calls Try.prog 35 #[.pointer (some ⟨b, 0, none⟩), .int .i64 5, v] w (ShortPost 27 5 w b r (l ++ xs.flatMap (fixedB 2))) := by
  refine lawput_u16 _ xs v w _ hv hn (fun W u hc hu hub => ((put_u16 (xs.map (· % 65536)) (by intro m hm; obtain ⟨x, _, rfl⟩ := List.mem_map.1 hm; omega) u W b r l ao0 cap0 (hW.keep hc (by simp) (by simp)) (by omega) (by rw [List.map_map, List.length_map]; simpa [cv_u16, Function.comp_def, IntKind.wrap_u16] using hu) (fun _ => lawput_apart hW u hub) (by rw [List.length_map]; omega)).mono ?_))
  rintro e w' ⟨he, hl2⟩
  refine ⟨he, (hl2.of hc).to ?_⟩
  rw [List.flatMap_map]
  exact congrArg (l ++ ·) (flat_congr _ _ _ fun m _ => fixedB_congr 2 _ _ (Nat.mod_mod _ _))
theorem lawput_w6 : Calls Try.prog 35 #[.pointer (some ⟨b, 0, none⟩), .int .i64 6, v] w (ShortPost 27 5 w b r (l ++ xs.flatMap (fixedB 4))) := by
  refine lawput_u32 _ xs v w _ hv hn (fun W u hc hu hub => ((put_u32 (xs.map (· % 4294967296)) (by intro m hm; obtain ⟨x, _, rfl⟩ := List.mem_map.1 hm; omega) u W b r l ao0 cap0 (hW.keep hc (by simp) (by simp)) (by omega) (by rw [List.map_map, List.length_map]; simpa [cv_u32, Function.comp_def] using hu) (fun _ => lawput_apart hW u hub) (by rw [List.length_map]; omega)).mono ?_))
  rintro e w' ⟨he, hl2⟩
  refine ⟨he, (hl2.of hc).to ?_⟩
  rw [List.flatMap_map]
  exact congrArg (l ++ ·) (flat_congr _ _ _ fun m _ => fixedB_congr 4 _ _ (Nat.mod_mod _ _))
include hxs hvb
theorem lawput_w7 : Calls Try.prog 35 #[.pointer (some ⟨b, 0, none⟩), .int .i64 7, v] w (ShortPost 27 5 w b r (l ++ xs.flatMap (fixedB 8))) :=
  lawput_u64 _ v w _ ((put_u64 xs hxs v w b r l ao0 cap0 hW (by omega) hv hvb (by omega)).mono fun _ _ h => h)
theorem lawput_calls (k : Int) :
    Calls Try.prog 35 #[.pointer (some ⟨b, 0, none⟩), .int .i64 k, v] w (ShortPost 27 5 w b r (l ++ xs.flatMap (fixedB (sizeI k)))) := by
  by_cases h : 0 ≤ k ∧ k < 8
  · obtain ⟨q, rfl⟩ := Int.eq_ofNat_of_zero_le h.1
    have hsz : sizeI (q : Int) = sizeOfW q := by unfold sizeI; rw [if_pos h]; rfl
    rw [hsz]
    match q, h with
    | 0, _ => exact lawput_w0 xs v w b r l ao0 cap0 hW hl hv hn
    | 1, _ => exact lawput_w1 xs v w b r l ao0 cap0 hW hl hv hn
    | 2, _ => exact lawput_w2 xs v w b r l ao0 cap0 hW hl hv hn
    | 3, _ => exact lawput_w3 xs v w b r l ao0 cap0 hW hl hv hn
    | 4, _ => exact lawput_w4 xs v w b r l ao0 cap0 hW hl hv hn
    | 5, _ => exact lawput_w5 xs v w b r l ao0 cap0 hW hl hv hn
    | 6, _ => exact lawput_w6 xs v w b r l ao0 cap0 hW hl hv hn
    | 7, _ => exact lawput_w7 xs hxs v w b r l ao0 cap0 hW hl hv hvb hn
    | q + 8, h => exact absurd h (by omega)
  · have hsz : sizeI k = 0 := by unfold sizeI; rw [if_neg h]
    rw [hsz]
    refine (lawput_out _ v k (by omega) w).mono ?_
    rintro e w' ⟨he, rfl⟩
    refine ⟨he, l, r, ao0, cap0, hW, Chg.refl _ _, Fresh.refl _ _, hid ?_⟩
    have : xs.flatMap (fixedB 0) = [] := by simp [fixedB]
    rw [this, List.append_nil]
end

end Go.Proofs.Ytdakcphkaljghaa
