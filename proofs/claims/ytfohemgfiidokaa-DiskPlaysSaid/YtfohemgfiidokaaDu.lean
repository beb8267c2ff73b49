/- The anchor of chapter 11: its walk. -/
import Derived.Test.YtfohemgfiidokaaDt
import Derived.Lib.SlBytesConst
namespace Go.Proofs.Ytfohemgfiidokaa
open Go.RowKit Go.Sort

def wd0 : Dk := ⟨⟨[], []⟩, ⟨[], []⟩, 10, false, false, 0⟩
theorem wok0 : DOk wd0 := ⟨⟨by decide +kernel, by decide +kernel⟩, ⟨by decide +kernel, by decide +kernel⟩, by decide +kernel, by decide +kernel⟩
def wd1 : Dk := ⟨⟨[], [.wr [97, 98, 99, 100]]⟩, ⟨[], []⟩, 10, false, false, -1⟩
theorem wok1 : DOk wd1 := ⟨⟨by decide +kernel, by decide +kernel⟩, ⟨by decide +kernel, by decide +kernel⟩, by decide +kernel, by decide +kernel⟩
def wd2 : Dk := ⟨⟨[], [.wr [97, 98, 99, 100]]⟩, ⟨[], []⟩, 10, true, false, -1⟩
theorem wok2 : DOk wd2 := ⟨⟨by decide +kernel, by decide +kernel⟩, ⟨by decide +kernel, by decide +kernel⟩, by decide +kernel, by decide +kernel⟩
def wd3 : Dk := ⟨⟨[97, 98, 99], []⟩, ⟨[], []⟩, 10, false, false, -1⟩
theorem wok3 : DOk wd3 := ⟨⟨by decide +kernel, by decide +kernel⟩, ⟨by decide +kernel, by decide +kernel⟩, by decide +kernel, by decide +kernel⟩
def wd4 : Dk := ⟨⟨[97, 98, 99], []⟩, ⟨[], []⟩, 10, false, false, -2⟩
theorem wok4 : DOk wd4 := ⟨⟨by decide +kernel, by decide +kernel⟩, ⟨by decide +kernel, by decide +kernel⟩, by decide +kernel, by decide +kernel⟩
def wd5 : Dk := ⟨⟨[97, 98, 99], [.ct 1]⟩, ⟨[], []⟩, 10, false, false, -3⟩
theorem wok5 : DOk wd5 := ⟨⟨by decide +kernel, by decide +kernel⟩, ⟨by decide +kernel, by decide +kernel⟩, by decide +kernel, by decide +kernel⟩
def wd6 : Dk := ⟨⟨[97, 98, 99], [.ct 1, .wr [120, 121]]⟩, ⟨[], []⟩, 10, false, false, -4⟩
theorem wok6 : DOk wd6 := ⟨⟨by decide +kernel, by decide +kernel⟩, ⟨by decide +kernel, by decide +kernel⟩, by decide +kernel, by decide +kernel⟩
def wd7 : Dk := ⟨⟨[97, 98, 99], [.ct 1, .wr [120, 121]]⟩, ⟨[], []⟩, 10, true, false, -4⟩
theorem wok7 : DOk wd7 := ⟨⟨by decide +kernel, by decide +kernel⟩, ⟨by decide +kernel, by decide +kernel⟩, by decide +kernel, by decide +kernel⟩
def wd8 : Dk := ⟨⟨[97, 120], []⟩, ⟨[], []⟩, 10, false, false, -4⟩
theorem wok8 : DOk wd8 := ⟨⟨by decide +kernel, by decide +kernel⟩, ⟨by decide +kernel, by decide +kernel⟩, by decide +kernel, by decide +kernel⟩
def wd9 : Dk := ⟨⟨[97, 120], []⟩, ⟨[], []⟩, 10, false, true, 1⟩
theorem wok9 : DOk wd9 := ⟨⟨by decide +kernel, by decide +kernel⟩, ⟨by decide +kernel, by decide +kernel⟩, by decide +kernel, by decide +kernel⟩
def wd10 : Dk := ⟨⟨[97, 120], []⟩, ⟨[], []⟩, 10, false, true, 0⟩
theorem wok10 : DOk wd10 := ⟨⟨by decide +kernel, by decide +kernel⟩, ⟨by decide +kernel, by decide +kernel⟩, by decide +kernel, by decide +kernel⟩
def wd11 : Dk := ⟨⟨[97, 120], []⟩, ⟨[], []⟩, 10, true, true, 0⟩
theorem wok11 : DOk wd11 := ⟨⟨by decide +kernel, by decide +kernel⟩, ⟨by decide +kernel, by decide +kernel⟩, by decide +kernel, by decide +kernel⟩
def wd12 : Dk := ⟨⟨[97, 120], []⟩, ⟨[], []⟩, 10, false, false, 0⟩
theorem wok12 : DOk wd12 := ⟨⟨by decide +kernel, by decide +kernel⟩, ⟨by decide +kernel, by decide +kernel⟩, by decide +kernel, by decide +kernel⟩
theorem lit0 : ∀ j, j < ([97, 98, 99, 100] : List Int).length → (#[.int .u8 97, .int .u8 98, .int .u8 99, .int .u8 100] : Array Value)[j]? = some (.int .u8 (([97, 98, 99, 100] : List Int)[j]?.getD 0)) := fun j hj => match j, hj with
  | 0, _ => rfl
  | 1, _ => rfl
  | 2, _ => rfl
  | 3, _ => rfl
  | j + 4, h => absurd h (by simp)
theorem lit1 : ∀ j, j < ([0, 0, 0, 0, 0, 0, 0] : List Int).length → (#[.int .u8 0, .int .u8 0, .int .u8 0, .int .u8 0, .int .u8 0, .int .u8 0, .int .u8 0] : Array Value)[j]? = some (.int .u8 (([0, 0, 0, 0, 0, 0, 0] : List Int)[j]?.getD 0)) := fun j hj => match j, hj with
  | 0, _ => rfl
  | 1, _ => rfl
  | 2, _ => rfl
  | 3, _ => rfl
  | 4, _ => rfl
  | 5, _ => rfl
  | 6, _ => rfl
  | j + 7, h => absurd h (by simp)
theorem lit5 : ∀ j, j < ([120, 121] : List Int).length → (#[.int .u8 120, .int .u8 121] : Array Value)[j]? = some (.int .u8 (([120, 121] : List Int)[j]?.getD 0)) := fun j hj => match j, hj with
  | 0, _ => rfl
  | 1, _ => rfl
  | j + 2, h => absurd h (by simp)
def pk1 (a : Int) : Nat → Int := fun i => if i = 0 then a else 0
theorem mk7 (w : World) : (Instr.makeSlice 33 (.int .i64 7) (.int .i64 7)).run Try.prog w = .ok (.slice (some ⟨w.heap.size, 0, none⟩) 7 7) (w.alloc (.cells #[.int .u8 0, .int .u8 0, .int .u8 0, .int .u8 0, .int .u8 0, .int .u8 0, .int .u8 0] 5)) := by kernel_rfl
theorem pk_new (lo : Nat) (w : World) (t : TypeId) (a : Int) (h0 : -9223372036854775808 ≤ a) (h1 : a ≤ 9223372036854775807) : PkM lo w.heap.size (w.alloc (.cells #[.int .i64 a] t)) (some ⟨w.heap.size, 0, none⟩) 1 (pk1 a) := by
  refine ⟨fun i hi hl => ⟨w.heap.size, 0, rfl, ?_, .inr (Nat.le_refl _)⟩, fun i hi hl => by unfold pk1; rw [if_neg (by omega)], fun i hi => by unfold pk1; split <;> omega, fun i hi => by unfold pk1; split <;> omega⟩
  obtain rfl : i = 0 := by omega
  rw [cell_of_row _ _ _ _ _ _ (heap_alloc_new _ _)]
  rfl
theorem pk_nil (lo hi : Nat) (w : World) : PkM lo hi w none 0 (pk1 0) :=
  ⟨fun i _ hl => by omega, fun i _ _ => by unfold pk1; split <;> rfl, fun i _ => by unfold pk1; split <;> omega, fun i _ => by unfold pk1; split <;> omega⟩
set_option maxRecDepth 100000 in
set_option maxHeartbeats 1600000 in
theorem works_c (w0 : World) : Calls Try.prog 9 #[] w0 fun e w' => e = .returned (.bool true) ∧ Below w0.heap.size w0 w' := by
  have kn := now_new 10 w0 (by omega) (by omega)
  have hmk := mk7
  have kc := fun (w : World) (C : Array Value) (n c : Nat) => Lib.run_convert_bytes_const (P := Try.prog) w 33 5 C n c Try.underlying33 Try.underlying5
  go_enter Try.func9, Try.ntmps9
  go_wp2_with fail
  with_reducible refine kn.mono ?_
  rintro e w1 ⟨rfl, hn⟩
  clear kn
  change Now w0 w0.heap.size wd0 w1 at hn
  go_wp2_with fail
  with_reducible refine (now_write (r := 0) (d' := wd1) hn (bel_alloc (Below.refl _ _) _) wok0 0 _ [97, 98, 99, 100] (RdM.new _ _ _ _ [97, 98, 99, 100] 4 4 rfl (by decide) _ lit0) (by decide) (by kernel_rfl)).mono ?_
  rintro e w2 ⟨rfl, hm⟩
  clear hn
  have hn := hm
  clear hm
  go_wp2_with fail
  with_reducible refine (now_room (r := 6) hn wok1 (by kernel_rfl)).mono ?_
  rintro e w3 ⟨rfl, hm⟩
  clear hn
  have hn := hm
  clear hm
  go_wp2_with fail
  with_reducible refine (now_write (r := 7) (d' := wd1) hn (bel_alloc (Below.refl _ _) _) wok1 1 _ [0, 0, 0, 0, 0, 0, 0] (RdM.new _ _ _ _ [0, 0, 0, 0, 0, 0, 0] 7 7 rfl (by decide) _ lit1) (by decide) (by kernel_rfl)).mono ?_
  rintro e w4 ⟨rfl, hm⟩
  clear hn
  have hn := hm
  clear hm
  go_wp2_with fail
  with_reducible refine (now_off (r := 0) (d' := wd2) hn (by kernel_rfl)).mono ?_
  rintro e w5 ⟨rfl, hm⟩
  clear hn
  have hn := hm
  clear hm
  go_wp2_with fail
  with_reducible refine (now_sync (r := 8) (d' := wd2) hn wok2 0 (by kernel_rfl)).mono ?_
  rintro e w6 ⟨rfl, hm⟩
  clear hn
  have hn := hm
  clear hm
  go_wp2_with fail
  with_reducible refine (now_on (r := 0) (d' := wd3) hn (bel_alloc (Below.refl _ _) _) wok2 _ 1 1 (pk1 3) (pk_new _ _ _ 3 (by omega) (by omega)) (by kernel_rfl)).mono ?_
  rintro e w7 ⟨rfl, hm⟩
  clear hn
  have hn := hm
  clear hm
  go_wp2_with fail
  with_reducible refine (now_stands0 (r := true) hn wok3 rfl _ (by kernel_rfl)).mono ?_
  rintro e w8 ⟨rfl, hm⟩
  clear hn
  have hn := hm
  clear hm
  go_wp2_with fail
  with_reducible refine (now_sync (r := 0) (d' := wd4) hn wok3 0 (by kernel_rfl)).mono ?_
  rintro e w9 ⟨rfl, hm⟩
  clear hn
  have hn := hm
  clear hm
  go_wp2_with fail
  with_reducible refine (now_cut (r := 0) (d' := wd5) hn wok4 0 1 (by kernel_rfl)).mono ?_
  rintro e w10 ⟨rfl, hm⟩
  clear hn
  have hn := hm
  clear hm
  go_wp2_with fail
  with_reducible refine (now_write (r := 0) (d' := wd6) hn (bel_alloc (Below.refl _ _) _) wok5 0 _ [120, 121] (RdM.new _ _ _ _ [120, 121] 2 2 rfl (by decide) _ lit5) (by decide) (by kernel_rfl)).mono ?_
  rintro e w11 ⟨rfl, hm⟩
  clear hn
  have hn := hm
  clear hm
  go_wp2_with fail
  with_reducible refine (now_off (r := 0) (d' := wd7) hn (by kernel_rfl)).mono ?_
  rintro e w12 ⟨rfl, hm⟩
  clear hn
  have hn := hm
  clear hm
  go_wp2_with fail
  with_reducible refine (now_on (r := 0) (d' := wd8) hn (bel_alloc (Below.refl _ _) _) wok7 _ 1 1 (pk1 2) (pk_new _ _ _ 2 (by omega) (by omega)) (by kernel_rfl)).mono ?_
  rintro e w13 ⟨rfl, hm⟩
  clear hn
  have hn := hm
  clear hm
  go_wp2_with fail
  with_reducible refine (now_stands0 (r := true) hn wok8 rfl _ (by kernel_rfl)).mono ?_
  rintro e w14 ⟨rfl, hm⟩
  clear hn
  have hn := hm
  clear hm
  go_wp2_with fail
  with_reducible refine (now_on (r := 3) (d' := wd8) hn (Below.refl _ _) wok8 none 0 0 (pk1 0) (pk_nil _ _ _) (by kernel_rfl)).mono ?_
  rintro e w15 ⟨rfl, hm⟩
  clear hn
  have hn := hm
  clear hm
  go_wp2_with fail
  with_reducible refine (now_fuse (r := 0) (d' := wd9) hn 1 (by kernel_rfl)).mono ?_
  rintro e w16 ⟨rfl, hm⟩
  clear hn
  have hn := hm
  clear hm
  go_wp2_with fail
  with_reducible refine (now_sync (r := 0) (d' := wd10) hn wok9 0 (by kernel_rfl)).mono ?_
  rintro e w17 ⟨rfl, hm⟩
  clear hn
  have hn := hm
  clear hm
  go_wp2_with fail
  with_reducible refine (now_sync (r := 8) (d' := wd11) hn wok10 0 (by kernel_rfl)).mono ?_
  rintro e w18 ⟨rfl, hm⟩
  clear hn
  have hn := hm
  clear hm
  go_wp2_with fail
  with_reducible refine (now_off (r := 8) (d' := wd11) hn (by kernel_rfl)).mono ?_
  rintro e w19 ⟨rfl, hm⟩
  clear hn
  have hn := hm
  clear hm
  go_wp2_with fail
  with_reducible refine (now_on (r := 0) (d' := wd12) hn (Below.refl _ _) wok11 none 0 0 (pk1 0) (pk_nil _ _ _) (by kernel_rfl)).mono ?_
  rintro e w20 ⟨rfl, hm⟩
  clear hn
  have hn := hm
  clear hm
  go_wp2_with fail
  with_reducible refine (now_cut (r := 1) (d' := wd12) hn wok12 0 3 (by kernel_rfl)).mono ?_
  rintro e w21 ⟨rfl, hm⟩
  clear hn
  have hn := hm
  clear hm
  go_wp2_with fail
  go_ret
  exact ⟨rfl, hn.below⟩
end Go.Proofs.Ytfohemgfiidokaa
