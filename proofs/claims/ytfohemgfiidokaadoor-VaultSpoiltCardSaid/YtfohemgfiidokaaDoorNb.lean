/- The document's frames, and the record of the first one. -/
import Derived.Test.YtfohemgfiidokaaDoorNa
namespace Go.Proofs.YtfohemgfiidokaaDoor
open Go.RowKit Go.Sort

set_option maxRecDepth 100000 in
theorem rframe_c (g k : Int) (r : List Int) (w : World) (hk : 0 ≤ k ∧ k ≤ 1000000000) (hr : Bytes r) (hl : r.length ≤ 10000000) :
    Calls Tryd.prog 72 #[.int .u64 g, .int .i64 k, .string (strOfNums r)] w fun e w' => e = .returned (.string (strOfNums (frameI g k r))) ∧ Below w.heap.size w w' := by
  have hsz := strOfNums_size r
  have h1 := fun W => rlow_c (r.length : Int) 4 4 W (.inr ⟨rfl, rfl⟩)
  have h2 := fun W => rlow_c g 8 8 W (.inl ⟨rfl, rfl⟩)
  have h3 := fun W => rlow_c k 8 8 W (.inl ⟨rfl, rfl⟩)
  have hb1 := low_bytes (r.length : Int) 4
  have hb2 := low_bytes g 8
  have hb3 := low_bytes k 8
  have hl1 := low_length (r.length : Int) 4
  have hl2 := low_length g 8
  have hl3 := low_length k 8
  have h4 := fun W => rcheck_c (low g 8 ++ low k 8 ++ (low (r.length : Int) 4 ++ r)) W ((hb2.append hb3).append (hb1.append hr)) (by simp only [List.length_append]; omega)
  have hcl := chk_len (low g 8 ++ low k 8 ++ (low (r.length : Int) 4 ++ r))
  have a1 := str_add (low (r.length : Int) 4) r (by omega)
  have a2 := str_add (low g 8) (low k 8) (by omega)
  have a3 := str_add (low g 8 ++ low k 8) (low (r.length : Int) 4 ++ r) (by simp only [List.length_append]; omega)
  have a4 := str_add (low (r.length : Int) 4 ++ r) (chk (low g 8 ++ low k 8 ++ (low (r.length : Int) 4 ++ r))) (by simp only [List.length_append]; omega)
  have hfr : frameI g k r = low (r.length : Int) 4 ++ r ++ chk (low g 8 ++ low k 8 ++ (low (r.length : Int) 4 ++ r)) := by rw [frameI, recI, fchk, List.append_assoc (low g 8)]
  have hw1 : IntKind.u64.wrap (r.length : Int) = r.length := by rw [IntKind.wrap_u64]; omega
  have hw2 : IntKind.u64.wrap k = k := by rw [IntKind.wrap_u64]; omega
  rw [hfr]
  have H1 := Lib.hid h1; have H2 := Lib.hid h2; have H3 := Lib.hid h3; have H4 := Lib.hid h4
  clear h1 h2 h3 h4 hb1 hb2 hb3 hl1 hl2 hl3 hcl hfr hr
  generalize strOfNums (low (r.length : Int) 4 ++ r ++ chk (low g 8 ++ low k 8 ++ (low (r.length : Int) 4 ++ r))) = s7 at *
  generalize strOfNums (chk (low g 8 ++ low k 8 ++ (low (r.length : Int) 4 ++ r))) = s6 at *
  generalize strOfNums (low g 8 ++ low k 8 ++ (low (r.length : Int) 4 ++ r)) = s5 at *
  generalize strOfNums (low (r.length : Int) 4 ++ r) = s4 at *
  generalize strOfNums (low g 8 ++ low k 8) = s3 at *
  generalize strOfNums (low (r.length : Int) 4) = s1 at *
  generalize strOfNums (low g 8) = s2 at *
  generalize strOfNums (low k 8) = s8 at *
  generalize strOfNums r = s at *
  go_enter Tryd.func72, Tryd.ntmps72
  go_upto_region 2 with (go_at_call 79; (with_reducible refine (H1.out _).mono ?_); rintro e w1 ⟨rfl, b1⟩)
  have HB := Lib.hid b1
  clear b1
  go_wp2_with (first
    | (go_at_call 79; (with_reducible refine (H2.out _).mono ?_); rintro e w2 ⟨rfl, b2⟩; have b3 := Lib.hid (bel_call HB.out b2); clear b2)
    | (go_at_call 79; (with_reducible refine (H3.out _).mono ?_); rintro e w3 ⟨rfl, b4⟩; have b5 := Lib.hid (bel_call b3.out b4); clear b4)
    | (go_at_call 54; (with_reducible refine (H4.out _).mono ?_); rintro e w4 ⟨rfl, b6⟩; have b7 := Lib.hid (bel_call b5.out b6); clear b6)
    | fail)
  go_ret
  exact ⟨rfl, b7.out⟩
/-- what first tells -/
def FirstT (g k : Int) (xs : List Int) (e : Ending) : Prop :=
  match nxt g k xs with
  | none => ∃ s, e = .returned (.tuple #[.string s, .bool false])
  | some (r, _) => e = .returned (.tuple #[.string (strOfNums r), .bool true])
theorem firstT_none {g k : Int} {xs : List Int} (h : nxt g k xs = none) (s : ByteArray) : FirstT g k xs (.returned (.tuple #[.string s, .bool false])) := by
  unfold FirstT; rw [h]; exact ⟨s, rfl⟩
set_option maxRecDepth 100000 in
set_option maxHeartbeats 1000000 in
theorem first_c (g k : Int) (xs : List Int) (w : World) (hk : 0 ≤ k ∧ k ≤ 1000000000) (hx : Bytes xs) (hl : xs.length ≤ 1000000) :
    Calls Tryd.prog 56 #[.string (strOfNums xs), .int .u64 g, .int .i64 k] w fun e w' => FirstT g k xs e ∧ Below w.heap.size w w' := by
  have hsz := strOfNums_size xs
  by_cases h4 : xs.length < 4
  · have hn : nxt g k xs = none := by unfold nxt; rw [if_pos (by omega)]
    have HN := Lib.hid (firstT_none hn)
    clear hn
    generalize strOfNums xs = s at *
    go_enter Tryd.func56, Tryd.ntmps56
    go_wp2
    go_ret2
    exact ⟨HN.out _, Below.refl _ _⟩
  have he4 : (strOfNums xs).extract 0 4 = strOfNums (xs.take 4) := by rw [str_cut]; rfl
  have hnum := fun W => rnumber_c (xs.take 4) W (hx.take 4) (by rw [List.length_take]; omega)
  have hbd := ofBytes_bd _ (hx.take 4)
  have hl4 : (xs.take 4).length = 4 := by rw [List.length_take]; omega
  rw [hl4] at hbd
  have hlow := low_ofBytes (xs.take 4) (hx.take 4)
  rw [hl4] at hlow
  obtain ⟨n, hn⟩ := Int.eq_ofNat_of_zero_le hbd.1
  rw [hn] at hnum hbd hlow
  have hbd2 : (n : Int) < 4294967296 := hbd.2
  clear hbd
  have hw1 : IntKind.u64.wrap ((n : Int) + 36) = (n : Int) + 36 := by rw [IntKind.wrap_u64]; omega
  have hw2 : IntKind.u64.wrap (xs.length : Int) = xs.length := by rw [IntKind.wrap_u64]; omega
  have hw3 : IntKind.u64.wrap (4 + (n : Int)) = 4 + (n : Int) := by rw [IntKind.wrap_u64]; omega
  have hw4 : IntKind.u64.wrap ((4 : Int) + (n : Int)) = 4 + (n : Int) := hw3
  clear hbd2
  by_cases hbig : 32768 < n ∨ xs.length < n + 36
  · have hnx : nxt g k xs = none := by
      unfold nxt
      by_cases h36 : xs.length < 36
      · rw [if_pos h36]
      · rw [if_neg h36, hn, if_pos (by omega)]
    have HN := Lib.hid (firstT_none hnx)
    clear hnx hn hlow
    have HU := Lib.hid hnum
    clear hnum
    generalize strOfNums (xs.take 4) = s4 at *
    generalize strOfNums xs = s at *
    by_cases h3 : 32768 < n
    · have hd : decide ((32768 : Int) < (n : Int)) = true := decide_eq_true (by omega)
      clear hbig
      go_enter Tryd.func56, Tryd.ntmps56
      go_wp2_with (go_at_call 55; (with_reducible refine (HU.out _).mono ?_); rintro e w2 ⟨rfl, rfl⟩)
      go_ret2
      exact ⟨HN.out _, Below.refl _ _⟩
    · have hd : decide ((32768 : Int) < (n : Int)) = false := decide_eq_false (by omega)
      have hd2 : decide ((xs.length : Int) < (n : Int) + 36) = true := decide_eq_true (by omega)
      clear hbig
      go_enter Tryd.func56, Tryd.ntmps56
      go_wp2_with (go_at_call 55; (with_reducible refine (HU.out _).mono ?_); rintro e w2 ⟨rfl, rfl⟩)
      go_ret2
      exact ⟨HN.out _, Below.refl _ _⟩
  · have hn1 : n ≤ 32768 := by omega
    have hn2 : n + 36 ≤ xs.length := by omega
    clear hbig
    have her : (strOfNums xs).extract 4 (4 + n) = strOfNums ((xs.drop 4).take n) := by rw [str_cut, show 4 + n - 4 = n by omega]
    have hes : (strOfNums xs).extract 0 (n + 36) = strOfNums (xs.take (n + 36)) := by rw [str_cut]; rfl
    have hrl : ((xs.drop 4).take n).length = n := by rw [List.length_take, List.length_drop]; omega
    have hrb : Bytes ((xs.drop 4).take n) := (hx.drop 4).take n
    have hrec : recI ((xs.drop 4).take n) = xs.take (n + 4) := by
      rw [recI, hrl, hlow, Nat.add_comm n 4, List.take_add]
    have hfr : frameI g k ((xs.drop 4).take n) = xs.take (n + 4) ++ fchk g k (xs.take (n + 4)) := by rw [frameI, hrec]
    have htk : xs.take (n + 36) = xs.take (n + 4) ++ (xs.drop (n + 4)).take 32 := by rw [show n + 36 = n + 4 + 32 by omega, List.take_add]
    have hiff : xs.take (n + 36) = frameI g k ((xs.drop 4).take n) ↔ fchk g k (xs.take (n + 4)) = (xs.drop (n + 4)).take 32 := by
      rw [hfr, htk]
      constructor
      · intro h; exact (List.append_cancel_left h).symm
      · intro h; rw [h]
    have hfb : Bytes (frameI g k ((xs.drop 4).take n)) := by rw [hfr]; exact (hx.take _).append (chk_bytes _)
    have hnx : nxt g k xs = if fchk g k (xs.take (n + 4)) = (xs.drop (n + 4)).take 32 then some ((xs.drop 4).take n, xs.drop (n + 36)) else none := by
      unfold nxt
      rw [if_neg (by omega), hn, if_neg (by omega), Int.toNat_natCast, List.drop_take, show n + 4 - 4 = n by omega]
    have hF := fun W => rframe_c g k ((xs.drop 4).take n) W hk hrb (by omega)
    have hbq := str_beq (xs.take (n + 36)) (frameI g k ((xs.drop 4).take n)) (hx.take _) hfb (decide (fchk g k (xs.take (n + 4)) = (xs.drop (n + 4)).take 32)) (by rw [decide_eq_true_iff, hiff])
    have hres : FirstT g k xs (.returned (.tuple #[.string (strOfNums ((xs.drop 4).take n)), .bool (decide (fchk g k (xs.take (n + 4)) = (xs.drop (n + 4)).take 32))])) := by
      unfold FirstT
      rw [hnx]
      by_cases h : fchk g k (xs.take (n + 4)) = (xs.drop (n + 4)).take 32
      · rw [if_pos h]; rw [decide_eq_true h]
      · rw [if_neg h]; exact ⟨_, by rw [decide_eq_false h]⟩
    generalize decide (fchk g k (xs.take (n + 4)) = (xs.drop (n + 4)).take 32) = bb at *
    have HRS := Lib.hid hres; have HF := Lib.hid hF; have HU := Lib.hid hnum
    clear hres hnx hfb hiff htk hfr hrec hrb hrl hn hlow hF hnum
    obtain ⟨q1, q2⟩ := hbq
    generalize strOfNums (frameI g k ((xs.drop 4).take n)) = sf at *
    generalize strOfNums ((xs.drop 4).take n) = sr at *
    generalize strOfNums (xs.take (n + 36)) = sh at *
    generalize strOfNums (xs.take 4) = s4 at *
    generalize strOfNums xs = s at *
    have hd : decide ((32768 : Int) < (n : Int)) = false := decide_eq_false (by omega)
    have hd2 : decide ((xs.length : Int) < (n : Int) + 36) = false := decide_eq_false (by omega)
    have e0 : (0 : Int) ≤ (n : Int) + 36 := by omega
    have e1 : (n : Int) + 36 ≤ (xs.length : Int) := by omega
    go_enter Tryd.func56, Tryd.ntmps56
    go_upto_region 7 with (go_at_call 55; (with_reducible refine (HU.out _).mono ?_); rintro e w2 ⟨rfl, rfl⟩)
    go_region_held3 (fun _ => True) (trivial) (first | (go_at_call 72; (with_reducible refine (HF.out _).mono ?_); rintro e w3 ⟨rfl, b3⟩))
    go_wp2
    go_ret2
    refine ⟨?_, bel_call (Below.refl _ w2).drew b3⟩
    have hq3 : ((s.extract 0 ((n : Int) + 36).toNat).toList == sf.toList) = bb := by rw [show ((n : Int) + 36).toNat = n + 36 by omega, hes]; exact q1
    show FirstT g k xs (.returned (.tuple #[.string sr, .bool ((s.extract 0 ((n : Int) + 36).toNat).toList == sf.toList)]))
    rw [hq3]; exact HRS.out
end Go.Proofs.YtfohemgfiidokaaDoor
