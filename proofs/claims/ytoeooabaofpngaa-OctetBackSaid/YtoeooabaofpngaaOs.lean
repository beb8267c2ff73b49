/- Unhex. -/
import Derived.Test.YtoeooabaofpngaaOr
import Derived.Lib.SmallJoins
namespace Go.Proofs.Ytoeooabaofpngaa
open Go.RowKit Go.Sort
theorem or_half (a b : Int) (h0 : 0 ≤ a) (h1 : a ≤ 15) (h2 : 0 ≤ b) (h3 : b ≤ 15) : bits .or .u8 (16 * a) b = 16 * a + b := by
  obtain ⟨n, rfl⟩ := Int.eq_ofNat_of_zero_le h0
  obtain ⟨m, rfl⟩ := Int.eq_ofNat_of_zero_le h2
  have key : ∀ x y : Fin 16, bits .or .u8 (16 * ((x.val : Nat) : Int)) ((y.val : Nat) : Int) = 16 * ((x.val : Nat) : Int) + ((y.val : Nat) : Int) := by set_option maxRecDepth 100000 in decide
  exact key ⟨n, by omega⟩ ⟨m, by omega⟩
set_option maxRecDepth 100000 in
set_option maxHeartbeats 1000000 in
theorem unhex_c (s : ByteArray) (w : World) (hl : s.size ≤ 1000000) :
    Calls Try.prog 16 #[.string s] w fun e w' => ∃ v', e = .returned (.tuple #[v', .int .i64 (uhE (numsOf s))]) ∧ RowO w' w.heap.size v' (uhB (numsOf s)) ∧ Below w.heap.size w w' := by
  obtain ⟨i0, hi, hz0, hz1, hz2⟩ := info_parts Try.info5
  have hconv := Lib.run_convert_string_bytes (P := Try.prog) w 9 22 5 s Try.underlying9 Try.underlying22 Try.underlying5
  have hbelow := Go.Joins.below_bytesWorld w.heap.size w 5 s (Nat.le_refl _)
  have hcells : ∀ j, j < s.size → (Lib.bytesWorld w 5 s).cell? ⟨w.heap.size, j, none⟩ = some (.int .u8 ((numsOf s)[j]?.getD 0)) := fun j hj => by
    rw [Lib.bytesWorld_cell w 5 s j hj]
    have hj' : j < s.data.toList.length := hj
    simp only [numsOf, List.getElem?_map, List.getD_eq_getElem?_getD, List.getElem?_eq_getElem hj', Option.map_some, Option.getD_some]
  have hsz := Lib.bytesWorld_size w 5 s
  generalize Lib.bytesWorld w 5 s = W1 at *
  generalize grownCap w s.size 0 5 = cap at *
  have hlen := numsOf_len s
  have hbs := numsOf_bytes s
  generalize numsOf s = xs at *
  have HC := Lib.hid hcells
  have HLN := Lib.hid hlen
  have HSZ := Lib.hid hsz
  clear hcells hlen hsz
  go_enter Try.func16, Try.ntmps16
  go_wp2
  have HB1 := hbelow.size
  go_loopw [4, 11] (fun l i wr => ∃ (k : Nat) (ys : List Int), k ≤ s.size ∧ i = .int .i64 k ∧ RowO wr W1.heap.size l ys ∧ Below W1.heap.size W1 wr ∧ Hid (uhs (xs.take k) = some ys)) (fun _ i _ => s.size - (intOf i).toNat)
  case atStart => exact ⟨0, [], by omega, rfl, World.ownsRow_nil _ _ _ _, Below.refl _ _, Lib.hid rfl⟩
  case round =>
    obtain ⟨k, ys, hk, rfl, hown, hB, hun⟩ := hrel
    have HB := hB.size
    have hbB := bel_call hbelow hB
    by_cases hlt : k < s.size
    · have hcell := HC.out k hlt
      rw [← hB.cell (p := ⟨w.heap.size, k, none⟩) (by have := HSZ.out; simp; omega)] at hcell
      have hts : xs.take (k + 1) = xs.take k ++ [xs[k]?.getD 0] := by
        rw [List.take_succ_eq_append_getElem (by rw [HLN.out]; exact hlt), List.getElem?_eq_getElem (by rw [HLN.out]; exact hlt)]; rfl
      have hb1 := hbs.at k (by rw [HLN.out]; exact hlt)
      generalize xs[k]?.getD 0 = p at *
      have hyl : ys.length = (k + 1) / 2 := by
        have := uhs_len _ _ hun.out
        rw [this, List.length_take, HLN.out, Nat.min_eq_left (by omega)]
      have hyA : 2 * ys.length ≤ k + 1 := by omega
      have hyB : k ≤ 2 * ys.length := by omega
      clear hyl
      have kix : ∀ W, Calls Try.prog 34 #[.string ⟨#[48, 49, 50, 51, 52, 53, 54, 55, 56, 57, 97, 98, 99, 100, 101, 102]⟩, .int .u8 p] W fun e w' => e = .returned (.int .i64 (halfI p)) ∧ W = w' := fun W => by
        refine (Try.strings_IndexByte ⟨#[48, 49, 50, 51, 52, 53, 54, 55, 56, 57, 97, 98, 99, 100, 101, 102]⟩ p W).mono ?_
        rintro e w' ⟨rfl, rfl⟩
        exact ⟨by rw [← ix_letters p hb1.1 hb1.2], rfl⟩
      have hpl := halfI_lo p
      by_cases hp : halfI p < 0
      · have hno : uhs (xs.take (k + 1)) = none := by
          rw [hts]
          by_cases hk2 : k % 2 = 0
          · rw [uhs_open _ _ p hun.out (by rw [List.length_take, HLN.out, Nat.min_eq_left (by omega)]; exact hk2), if_pos hp]
          · rw [(uhs_shut _ _ p hun.out (by rw [List.length_take, HLN.out, Nat.min_eq_left (by omega)]; omega)).2, if_pos hp]
        obtain ⟨e1, e2⟩ := uh_none (uhs_none_of xs (k + 1) hno)
        have E1 := Lib.hid e1
        have E2 := Lib.hid e2
        generalize halfI p = a at *
        clear hno hts e1 e2
        go_wp2_with (go_at_call 34; with_reducible refine (kix _).mono ?_; rintro e w1 ⟨rfl, rfl⟩)
        go_ret2
        exact ⟨_, ret2_eq E2.out.symm, by rw [E1.out]; exact World.ownsRow_nil _ _ _ _, hbB⟩
      · by_cases hk2 : k % 2 = 0
        · have hsn := uhs_open _ _ p hun.out (by rw [List.length_take, HLN.out, Nat.min_eq_left (by omega)]; exact hk2)
          rw [← hts, if_neg hp] at hsn
          have HS := Lib.hid hsn
          unfold RowO at hown
          generalize halfI p = a at *
          have ha : 0 ≤ a := by omega
          have hk2' : (k : Int) % 2 = 0 := by omega
          have g1 : IntKind.i64.wrap (a * 16) = a * 16 := by rw [IntKind.wrap_i64]; omega
          have g2 : IntKind.u8.wrap (a * 16) = 16 * a := by rw [IntKind.wrap_u8]; omega
          clear hsn hts hp
          go_wp2_with (first | (go_at_call 34; with_reducible refine (kix _).mono ?_; rintro e w1 ⟨rfl, rfl⟩) | (at_builtin; go_loud (refine wpList_append_own _ rfl _ _ 22 rfl W1.heap.size 5 i0 (.int .u8 0) 1 1 Try.underlying22 hi hz0 hz1 hz2 rfl (by decide) _ _ _ rfl (ownsRow_alloc hown _) ⟨wr.heap.size, 0, none⟩ 1 1 [.int .u8 (16 * a)] rfl rfl ?c1 ?c2 ?c3 ?c4 ?c5 ?_)))
          try case c1 => (intro j u hj; rcases j with _ | j <;> simp at hj; subst hj; simp [Addr.add])
          try case c2 => (intro u hu; simp at hu; subst hu; rfl)
          try case c3 => unfold maxLen; omega
          try case c4 => omega
          try case c5 => simp; omega
          intro v' w1 hown' hgrow _
          have hB2 := grown_below (ownsRow_alloc hown _) (Below.alloc hB (by omega) _) (by simp; omega) hgrow
          rw [u8s_snoc, show ys.length + 1 = (ys ++ [16 * a]).length by simp] at hown'
          clear hgrow
          go_wp2
          go_roundw
          case rel => exact ⟨k + 1, _, by omega, by go_num, hown', hB2, HS⟩
          case measure => simp [intOf]; omega
        · obtain ⟨⟨x, x0, x1, x2⟩, hsn⟩ := uhs_shut _ _ p hun.out (by rw [List.length_take, HLN.out, Nat.min_eq_left (by omega)]; omega)
          rw [← hts, if_neg hp] at hsn
          rw [List.length_take, HLN.out, Nat.min_eq_left (by omega)] at x2 hsn
          rw [x2] at hsn
          have HS := Lib.hid hsn
          have horr := or_half x (halfI p) x0 x1 (by omega) (by omega)
          generalize halfI p = a at *
          have ha : 0 ≤ a := by omega
          have hk2' : (k : Int) % 2 = 1 := by omega
          obtain ⟨g, cap', rfl, hg0, -⟩ := World.ownsRow.form hown (by omega)
          have hrc := hown.rd
          have c1 : wr.cell? ⟨g, k / 2, none⟩ = some (.int .u8 (16 * x)) := by
            have := World.ownsRow.cellAt hown (k / 2) (by omega)
            rw [this]
            simp only [u8s, List.getElem?_map]
            rw [List.getElem?_eq_getElem (by omega)] at x2 ⊢
            simpa using x2
          have f1 : wr.frozen? ⟨g, k / 2, none⟩ = false := World.ownsRow.frozenAt hown (k / 2)
          obtain ⟨hst, hgr⟩ := World.ownsRow.stored hown (k / 2) (.int .u8 (16 * x + a))
          have hB2 := grown_below hown hB HB hgr
          have hst2 : RowO (wr.setCell ⟨g, k / 2, none⟩ (.int .u8 (16 * x + a))) W1.heap.size (.slice (some ⟨g, 0, none⟩) ys.length cap') (ys.set (k / 2) (16 * x + a)) := by
            unfold RowO
            rw [List.length_set, show u8s (ys.set (k / 2) (16 * x + a)) = (u8s ys).set (k / 2) (.int .u8 (16 * x + a)) by simp [u8s]]
            exact hst
          have hST := Lib.hid hst2
          have HB2 := Lib.hid hB2
          clear hsn hts hp hst hgr hst2 hB2 hrc x2
          have hq : k / 2 < ys.length := by omega
          have g3 : IntKind.u8.wrap a = a := by rw [IntKind.wrap_u8]; omega
          have HO := Lib.hid hown
          clear hown
          go_wp2_with (first | (go_at_call 34; with_reducible refine (kix _).mono ?_; rintro e w1 ⟨rfl, rfl⟩))
          go_roundw
          case rel => exact ⟨k + 1, _, by omega, by go_num, hST.out, HB2.out, HS⟩
          case measure => simp [intOf]; omega
    · obtain rfl : k = s.size := by omega
      have hun2 := hun.out
      rw [← HLN.out, List.take_length] at hun2
      by_cases hodd : xs.length % 2 = 1
      · obtain ⟨e1, e2⟩ := uh_none (unhexI_odd xs hodd)
        have E1 := Lib.hid e1
        have E2 := Lib.hid e2
        have hm : (s.size : Int) % 2 = 1 := by have := HLN.out; omega
        clear e1 e2 hun2
        go_wp2
        go_ret2
        exact ⟨_, ret2_eq E2.out.symm, by rw [E1.out]; exact World.ownsRow_nil _ _ _ _, hbB⟩
      · rw [uhs_even xs (by omega)] at hun2
        obtain ⟨e1, e2⟩ := uh_some hun2
        have E1 := Lib.hid e1
        have E2 := Lib.hid e2
        have hm : (s.size : Int) % 2 = 0 := by have := HLN.out; omega
        have hd := RowO.down hown HB1
        have HD := Lib.hid hd
        clear e1 e2 hun2 hd
        go_wp2
        go_ret2
        exact ⟨_, ret2_eq E2.out.symm, by rw [E1.out]; exact HD.out, hbB⟩
end Go.Proofs.Ytoeooabaofpngaa
