/-
  Contracts: lists of walls, rings of points (ringOf, l04Around), boxes of walls.
-/
import Derived.Test.YtdnhdfnghkkncaaW2
import Derived.Test.YtdnhdfnghkkncaaOwn
set_option linter.unusedSimpArgs false
set_option linter.unusedVariables false
set_option maxRecDepth 100000
namespace Go.Proofs.Ytdnhdfnghkkncaa
open Go.RowKit

def Wl.cells (l : Wl) : List Value := [.complex .f32 l.fx l.fy, .complex .f32 l.tx l.ty, .complex .f32 l.vx l.vy]
theorem Wl.cells_len (l : Wl) : l.cells.length = 3 := rfl
abbrev Wls (w : World) (B : Nat) (A : Option Addr) (n : Nat) (ls : List Wl) : Prop := Arr Wl.cells 3 w B A n ls
abbrev ownW (w : World) (base : Nat) (v : Value) (ls : List Wl) : Prop := w.ownsRow base 31 3 v ls.length (ls.flatMap Wl.cells)
theorem Arr.wall {w : World} {B n : Nat} {A : Option Addr} {ls : List Wl} (h : Wls w B A n ls) {i : Nat} (hi : i < n) :
    ∃ b off l, A = some ⟨b, off, none⟩ ∧ b < B ∧ ls[i]? = some l ∧ w.cell? ⟨b, off + i * 3, none⟩ = some (.complex .f32 l.fx l.fy) ∧ w.cell? ⟨b, off + i * 3 + 1, none⟩ = some (.complex .f32 l.tx l.ty) ∧
      w.cell? ⟨b, off + i * 3 + 2, none⟩ = some (.complex .f32 l.vx l.vy) := by
  obtain ⟨b, off, e, hb, hc⟩ := h.cells (by omega)
  have hl := h.len
  have hg : ls[i]? = some (ls[i]'(by omega)) := List.getElem?_eq_getElem _
  exact ⟨b, off, _, e, hb, hg, hc i _ hg 0 _ rfl, hc i _ hg 1 _ rfl, hc i _ hg 2 _ rfl⟩
theorem elW : ElT Try.prog 99 31 3 := ⟨Try.underlying99, ⟨24, by omega, by kernel_rfl⟩, by omega⟩

theorem wall1_c (l : Wl) (w : World) (h : l.Ok) : Calls Try.prog 284 #[l.val] w fun e w' => e = .returned (.bool false) ∧ Below w.heap.size w w' := by
  have H := Lib.hid h
  clear h
  go_enter Try.func284, Try.ntmps284
  go_wp2_with fail
  refine (validWall_c l _ H.out).mono ?_
  rintro e w1 ⟨rfl, hb1⟩
  obtain ⟨B1, L1, K1⟩ := boxed hb1
  clear hb1
  go_wp2
  go_ret
  exact ⟨rfl, K1⟩
theorem in284 : ∀ args w, (callFunc 284 args).run Try.prog w = .ok (.enter 284 args) w := fun _ _ => by kernel_rfl
theorem indexW_no (ls : List Wl) (w : World) (A : Option Addr) (n c : Nat) (hr : Wls w w.heap.size A n ls) (hn : n ≤ 4096) (hf : ∀ l ∈ ls, l.Ok) :
   Calls Try.prog 294 #[.slice A n c, .func (.func 284) #[] #[]] w fun e w' => e = .returned (.int .i64 (-1)) ∧ Below w.heap.size w w' := by
  have HF := Lib.hid hf
  have HR := Lib.hid hr
  clear hf hr
  go_enter Try.func294, Try.ntmps294
  go_wp2
  go_loopw [8, 4, 5] (fun i r k wr => ∃ j : Nat, j ≤ n ∧ i = .int .i64 j ∧ r = .int .i64 0 ∧ Below w.heap.size w wr) (fun i _ _ _ => n - (intOf i).toNat)
  case atStart => exact ⟨0, by omega, rfl, rfl, Below.refl _ _⟩
  case round =>
    obtain ⟨j, hj, rfl, rfl, hbw⟩ := hrel
    by_cases hlt : j < n
    · obtain ⟨b, off, l, rfl, hb, hg, c0, c1, c2⟩ := (HR.out.to hbw).wall hlt
      have HX := Lib.hid (HF.out l (List.mem_of_getElem? hg))
      have HW := Lib.hid hbw
      clear hg hbw
      go_wp2_with (refine (wall1_c l _ HX.out).mono ?_; rintro e w' ⟨rfl, hb2⟩)
      go_roundw
      case rel => exact ⟨j + 1, by omega, by go_num, rfl, bthen HW.out hb2 HW.out.size⟩
      case measure => simp [intOf]; omega
    · go_wp2
      go_ret
      exact ⟨rfl, hbw⟩
theorem containsW_no (ls : List Wl) (w : World) (A : Option Addr) (n c : Nat) (hr : Wls w w.heap.size A n ls) (hn : n ≤ 4096) (hf : ∀ l ∈ ls, l.Ok) :
   Calls Try.prog 283 #[.slice A n c, .func (.func 284) #[] #[]] w fun e w' => e = .returned (.bool false) ∧ Below w.heap.size w w' := by
  have HC := Lib.hid (indexW_no ls w A n c hr hn hf)
  clear hf hr
  go_enter Try.func283, Try.ntmps283
  go_wp2_with (go_at_call 294; refine HC.out.mono ?_; rintro e w' ⟨rfl, hb⟩)
  go_ret
  exact ⟨rfl, hb⟩
theorem areWalls_c (ls : List Wl) (w : World) (A : Option Addr) (n c : Nat) (hr : Wls w w.heap.size A n ls) (hn : n ≤ 12) (hf : ∀ l ∈ ls, l.Ok) :
   Calls Try.prog 253 #[.slice A n c] w fun e w' => e = .returned (.bool true) ∧ Below w.heap.size w w' := by
  have HC := Lib.hid (containsW_no ls w A n c hr (by omega) hf)
  clear hf hr
  go_enter Try.func253, Try.ntmps253
  go_wp2_with (go_at_call 283; refine HC.out.mono ?_; rintro e w' ⟨rfl, hb⟩)
  go_ret
  exact ⟨rfl, hb⟩
theorem checkedWalls_c (ls : List Wl) (w : World) (A : Option Addr) (n c : Nat) (hr : Wls w w.heap.size A n ls) (hn : n ≤ 12) (hf : ∀ l ∈ ls, l.Ok) :
   Calls Try.prog 180 #[.slice A n c] w fun e w' => e = .returned (.tuple #[.slice A n c, .bool true]) ∧ Below w.heap.size w w' := by
  have HC := Lib.hid (areWalls_c ls w A n c hr hn hf)
  clear hf hr
  go_enter Try.func180, Try.ntmps180
  go_wp2_with (go_at_call 253; refine HC.out.mono ?_; rintro e w' ⟨rfl, hb⟩)
  go_ret2
  exact ⟨rfl, hb⟩
end Go.Proofs.Ytdnhdfnghkkncaa
