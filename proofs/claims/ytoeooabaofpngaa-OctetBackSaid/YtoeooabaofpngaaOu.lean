/- The anchor's calls. -/
import Derived.Test.YtoeooabaofpngaaOt
import Derived.Test.YtoeooabaofpngaaOk
import Derived.Test.YtoeooabaofpngaaEq
namespace Go.Proofs.Ytoeooabaofpngaa
open Go.RowKit Go.Sort
def h12 : List Int := [1, 2, 0, 0, 0, 0, 0, 0, 0, 0, 0, 0, 0, 0, 0, 0, 0, 0, 0, 0, 0, 0, 0, 0, 0, 0, 0, 0, 0, 0, 0, 0]
theorem hash_eq (bs ds : List Int) (hb : bs.length = 32) (hd : ds.length = 32) (w : World) : (binOp .eql 34 (.agg (bs.map (Value.int .u8)).toArray) (.agg (ds.map (Value.int .u8)).toArray)).run Try.prog w = .ok (.bool (bs == ds)) w :=
  run_eql_ints w 34 5 .u8 32 (Try.underlying34.trans rfl) Try.underlying5 (fun _ => by simp [go_sem]) bs ds hb hd
theorem h12_bytes : Bytes h12 := by intro b hb; simp [h12] at hb; omega
theorem h12_lit : hsh h12 = .agg #[.int .u8 1, .int .u8 2, .int .u8 0, .int .u8 0, .int .u8 0, .int .u8 0, .int .u8 0, .int .u8 0, .int .u8 0, .int .u8 0, .int .u8 0, .int .u8 0, .int .u8 0, .int .u8 0, .int .u8 0, .int .u8 0, .int .u8 0, .int .u8 0, .int .u8 0, .int .u8 0, .int .u8 0, .int .u8 0, .int .u8 0, .int .u8 0, .int .u8 0, .int .u8 0, .int .u8 0, .int .u8 0, .int .u8 0, .int .u8 0, .int .u8 0, .int .u8 0] := rfl
theorem ut_hex (h : List Int) (hl : h.length = 32) (hb : Bytes h) : utB (hexI h.reverse) = h ∧ utE (hexI h.reverse) = 0 := by
  have hbr : Bytes h.reverse := fun b hb' => hb b (by simpa using hb')
  obtain ⟨e1, e2⟩ := uh_some (unhex_hex h.reverse hbr)
  unfold utB utE
  rw [e1, e2, if_pos ⟨rfl, by simp [hl]⟩, if_pos ⟨rfl, by simp [hl]⟩, List.reverse_reverse]
  exact ⟨rfl, rfl⟩
theorem rdb_of_row {w : World} {g cap : Nat} {xs : List Int} {t : TypeId} (h : w.heap[g]? = some (.cells (xs.map (Value.int .u8)).toArray t (0, 0))) (hc : xs.length ≤ cap) : RdB w (.slice (some ⟨g, 0, none⟩) xs.length cap) xs :=
  .inr ⟨_, g, 0, cap, rfl, hc, fun _ => rfl, fun j hj => by
    rw [Nat.zero_add]
    simp [World.cell?, h, hj]⟩
theorem tv1 : tvarB [253, 253, 0] 0 = (253, 3, 0) := by decide
theorem tv2 : tvarB [253, 252, 0] 0 = (0, 0, 5) := by decide
theorem wk1 (w : World) : Calls Try.prog 25 #[.slice (some ⟨w.heap.size, 0, none⟩) 3 3, .int .i64 0] (w.alloc (.cells #[.int .u8 253, .int .u8 253, .int .u8 0] 5)) fun e w' => e = .returned (.tuple #[.int .u64 253, .int .i64 3, .int .i64 0]) ∧ w' = (w.alloc (.cells #[.int .u8 253, .int .u8 253, .int .u8 0] 5)) := by
  have r1 : RdB (w.alloc (.cells #[.int .u8 253, .int .u8 253, .int .u8 0] 5)) (.slice (some ⟨w.heap.size, 0, none⟩) 3 3) [253, 253, 0] := rdb_of_row (xs := [253, 253, 0]) (heap_alloc_new _ _) (Nat.le_refl _)
  have := takevar_c _ _ 0 _ r1 (by intro b hb; simp at hb; omega) (by simp) ⟨by omega, by omega⟩
  rw [tv1] at this
  exact this
theorem wk2 (w : World) : Calls Try.prog 25 #[.slice (some ⟨w.heap.size, 0, none⟩) 3 3, .int .i64 0] (w.alloc (.cells #[.int .u8 253, .int .u8 252, .int .u8 0] 5)) fun e w' => e = .returned (.tuple #[.int .u64 0, .int .i64 0, .int .i64 5]) ∧ w' = (w.alloc (.cells #[.int .u8 253, .int .u8 252, .int .u8 0] 5)) := by
  have r1 : RdB (w.alloc (.cells #[.int .u8 253, .int .u8 252, .int .u8 0] 5)) (.slice (some ⟨w.heap.size, 0, none⟩) 3 3) [253, 252, 0] := rdb_of_row (xs := [253, 252, 0]) (heap_alloc_new _ _) (Nat.le_refl _)
  have := takevar_c _ _ 0 _ r1 (by intro b hb; simp at hb; omega) (by simp) ⟨by omega, by omega⟩
  rw [tv2] at this
  exact this
theorem st_lit : numsOf { data := #[48, 97, 102, 102] } = [48, 97, 102, 102] := rfl
theorem uh_lit : unhexI [48, 97, 102, 102] = some [10, 255] := by decide
theorem hx_lit : strOfNums (hexI [10, 255]) = { data := #[48, 97, 102, 102] } := rfl
theorem wk3 (W : World) : Calls Try.prog 16 #[.string { data := #[48, 97, 102, 102] }] W fun e w' => ∃ v', e = .returned (.tuple #[v', .int .i64 0]) ∧ RowO w' W.heap.size v' [10, 255] ∧ Below W.heap.size W w' := by
  have := unhex_c { data := #[48, 97, 102, 102] } W (by decide)
  rw [st_lit, (uh_some uh_lit).1, (uh_some uh_lit).2] at this
  exact this
theorem wk4 (W : World) : Calls Try.prog 22 #[.agg #[.int .u8 1, .int .u8 2, .int .u8 0, .int .u8 0, .int .u8 0, .int .u8 0, .int .u8 0, .int .u8 0, .int .u8 0, .int .u8 0, .int .u8 0, .int .u8 0, .int .u8 0, .int .u8 0, .int .u8 0, .int .u8 0, .int .u8 0, .int .u8 0, .int .u8 0, .int .u8 0, .int .u8 0, .int .u8 0, .int .u8 0, .int .u8 0, .int .u8 0, .int .u8 0, .int .u8 0, .int .u8 0, .int .u8 0, .int .u8 0, .int .u8 0, .int .u8 0]] W fun e w' => e = .returned (.string (strOfNums (hexI h12.reverse))) ∧ Below W.heap.size W w' := by
  have := turned_c h12 W rfl h12_bytes
  rw [h12_lit] at this
  exact this
theorem wk5 (W : World) : Calls Try.prog 18 #[.string (strOfNums (hexI h12.reverse))] W fun e w' => e = .returned (.tuple #[.agg #[.int .u8 1, .int .u8 2, .int .u8 0, .int .u8 0, .int .u8 0, .int .u8 0, .int .u8 0, .int .u8 0, .int .u8 0, .int .u8 0, .int .u8 0, .int .u8 0, .int .u8 0, .int .u8 0, .int .u8 0, .int .u8 0, .int .u8 0, .int .u8 0, .int .u8 0, .int .u8 0, .int .u8 0, .int .u8 0, .int .u8 0, .int .u8 0, .int .u8 0, .int .u8 0, .int .u8 0, .int .u8 0, .int .u8 0, .int .u8 0, .int .u8 0, .int .u8 0], .int .i64 0]) ∧ Below W.heap.size W w' := by
  have hbr : Bytes h12.reverse := fun b hb => h12_bytes b (by simpa using hb)
  have := unturned_c (strOfNums (hexI h12.reverse)) W (by rw [strOfNums_size, hexI_len]; decide)
  rw [nums_str _ (hexI_bytes _ hbr), (ut_hex h12 rfl h12_bytes).1, (ut_hex h12 rfl h12_bytes).2, h12_lit] at this
  exact this
theorem wk6 (w : World) : (binOp .eql 34 (.agg #[.int .u8 1, .int .u8 2, .int .u8 0, .int .u8 0, .int .u8 0, .int .u8 0, .int .u8 0, .int .u8 0, .int .u8 0, .int .u8 0, .int .u8 0, .int .u8 0, .int .u8 0, .int .u8 0, .int .u8 0, .int .u8 0, .int .u8 0, .int .u8 0, .int .u8 0, .int .u8 0, .int .u8 0, .int .u8 0, .int .u8 0, .int .u8 0, .int .u8 0, .int .u8 0, .int .u8 0, .int .u8 0, .int .u8 0, .int .u8 0, .int .u8 0, .int .u8 0]) (.agg #[.int .u8 1, .int .u8 2, .int .u8 0, .int .u8 0, .int .u8 0, .int .u8 0, .int .u8 0, .int .u8 0, .int .u8 0, .int .u8 0, .int .u8 0, .int .u8 0, .int .u8 0, .int .u8 0, .int .u8 0, .int .u8 0, .int .u8 0, .int .u8 0, .int .u8 0, .int .u8 0, .int .u8 0, .int .u8 0, .int .u8 0, .int .u8 0, .int .u8 0, .int .u8 0, .int .u8 0, .int .u8 0, .int .u8 0, .int .u8 0, .int .u8 0, .int .u8 0])).run Try.prog w = .ok (.bool true) w := by
  have := hash_eq h12 h12 rfl rfl w
  rw [show (h12 == h12) = true by simp] at this
  exact this
theorem wk7 (W : World) (v : Value) (h : RdB W v [10, 255]) : Calls Try.prog 20 #[v] W fun e w' => e = .returned (.string { data := #[48, 97, 102, 102] }) ∧ Below W.heap.size W w' := by
  have := hex_c v _ W h (by intro b hb; simp at hb; omega) (by simp)
  rw [hx_lit] at this
  exact this
end Go.Proofs.Ytoeooabaofpngaa
