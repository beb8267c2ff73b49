/- The vault in plain numbers: frames, what a file has. Numbers as bytes, and back: vault's low and number. sha.Twice and vault's check. vault's head; slices.Grow and Concat of bytes; framed. -/
import Derived.Test.YtfohemgfiidokaaGreatDoorTc
import Derived.Lib.AppendZeros
namespace Go.Proofs.YtfohemgfiidokaaGreatDoor
open Go.RowKit Go.Sort

def ofBytes : List Int → Int
  | [] => 0
  | b :: l => b + 256 * ofBytes l
theorem ofBytes_snoc (l : List Int) (b : Int) : ofBytes (l ++ [b]) = ofBytes l + b * 256 ^ l.length := by
  induction l with
  | nil => simp [ofBytes]
  | cons a l ih =>
    simp only [List.cons_append, ofBytes, ih, List.length_cons, Int.pow_succ, Int.mul_add, Int.add_assoc]
    congr 2
    rw [Int.mul_comm (256 ^ l.length) 256, Int.mul_left_comm]
theorem ofBytes_bd (l : List Int) (h : Bytes l) : 0 ≤ ofBytes l ∧ ofBytes l < 256 ^ l.length := by
  induction l with
  | nil => simp [ofBytes]
  | cons a l ih =>
    have ⟨h1, h2⟩ := h a (by simp)
    have ⟨h3, h4⟩ := ih fun b hb => h b (by simp [hb])
    simp only [ofBytes, List.length_cons, Int.pow_succ]
    omega
theorem wrap_lo (x : Int) : IntKind.u64.wrap x = x % 18446744073709551616 := by rw [IntKind.wrap_u64]
theorem bits_or_u64 (a b : Nat) (ha : a < 2 ^ 64) (hb : b < 2 ^ 64) : bits .or .u64 (a : Int) (b : Int) = ((a ||| b : Nat) : Int) := by
  have h : a ||| b < 2 ^ 64 := Nat.or_lt_two_pow ha hb
  have e1 : (BitVec.ofInt 64 (a : Int) ||| BitVec.ofInt 64 (b : Int)).toNat = (a ||| b) := by
    rw [BitVec.toNat_or]
    simp only [BitVec.toNat_ofInt]
    congr 1 <;> omega
  have e2 : bits .or .u64 (a : Int) (b : Int) = IntKind.u64.wrap ((BitVec.ofInt 64 (a : Int) ||| BitVec.ofInt 64 (b : Int)).toNat : Nat) := rfl
  rw [e2, e1, wrap_lo]; omega
theorem or_add (a b r : Nat) (hd : 2 ^ r ∣ a) (hb : b < 2 ^ r) (ha' : a < 2 ^ 64) (hb' : b < 2 ^ 64) : bits .or .u64 (a : Int) (b : Int) = ((a + b : Nat) : Int) := by
  rw [bits_or_u64 a b ha' hb']
  obtain ⟨c, rfl⟩ := hd
  rw [Nat.two_pow_add_eq_or_of_lt hb]
/-- a byte put into a word where nothing stands yet -/
theorem or_byte (a b : Int) (r : Nat) (hr : r < 8) (ha : 0 ≤ a) (ha' : a < 256 ^ r) (hb : 0 ≤ b) (hb' : b ≤ 255) :
    bits .or .u64 a (IntKind.u64.wrap (b * 2 ^ (8 * r))) = a + b * 256 ^ r ∧ 0 ≤ b * 256 ^ r ∧ a + b * 256 ^ r ≤ 18446744073709551615 := by
  obtain ⟨a, rfl⟩ := Int.eq_ofNat_of_zero_le ha
  obtain ⟨b, rfl⟩ := Int.eq_ofNat_of_zero_le hb
  have e1 : (2 : Nat) ^ (8 * r) = 256 ^ r := by rw [Nat.pow_mul]
  have ha2 : a < 2 ^ (8 * r) := by rw [e1]; exact Int.ofNat_lt.1 (by rw [Int.natCast_pow]; exact ha')
  have hb2 : b * 2 ^ (8 * r) + 2 ^ (8 * r) ≤ 256 * 2 ^ (8 * r) := by
    have := Nat.mul_le_mul_right (2 ^ (8 * r)) (show b + 1 ≤ 256 by omega)
    rw [Nat.add_mul] at this; omega
  have hp : 256 * 2 ^ (8 * r) ≤ 18446744073709551616 := by
    have := Nat.pow_le_pow_right (show 0 < 2 by omega) (show 8 + 8 * r ≤ 64 by omega)
    rw [Nat.pow_add] at this; omega
  have e2 : ((b : Int) * 2 ^ (8 * r)) = ((b * 2 ^ (8 * r) : Nat) : Int) := by rw [Int.natCast_mul, Int.natCast_pow]; rfl
  have e3 : ((b : Int) * 256 ^ r) = ((b * 2 ^ (8 * r) : Nat) : Int) := by rw [e1, Int.natCast_mul, Int.natCast_pow]; rfl
  have hd : 2 ^ (8 * r) ∣ b * 2 ^ (8 * r) := Nat.dvd_mul_left _ _
  rw [e2, e3, wrap_lo]
  have e4 : ((b * 2 ^ (8 * r) : Nat) : Int) % 18446744073709551616 = ((b * 2 ^ (8 * r) : Nat) : Int) := by
    generalize b * 2 ^ (8 * r) = z at *
    omega
  rw [e4]
  have h1 : b * 2 ^ (8 * r) < 2 ^ 64 := by generalize b * 2 ^ (8 * r) = z at *; omega
  have h2 : a < 2 ^ 64 := by generalize 2 ^ (8 * r) = z at *; omega
  have e5 := or_add _ _ _ hd ha2 h1 h2
  rw [bits_or_u64 _ _ h1 h2] at e5
  rw [bits_or_u64 _ _ h2 h1, Nat.or_comm, e5]
  generalize b * 2 ^ (8 * r) = z at *
  generalize 2 ^ (8 * r) = y at *
  omega

/-- byte j of a number -/
def byteAt (v : Int) (j : Nat) : Int := v / 256 ^ j % 256
/-- the lowest bytes of a number -/
def low (v : Int) (k : Nat) : List Int := (List.range k).map (byteAt v)
theorem byteAt_bd (v : Int) (j : Nat) : 0 ≤ byteAt v j ∧ byteAt v j ≤ 255 := by unfold byteAt; omega
theorem low_length (v : Int) (k : Nat) : (low v k).length = k := by simp [low]
theorem low_bytes (v : Int) (k : Nat) : Bytes (low v k) := by
  intro b hb
  obtain ⟨j, _, rfl⟩ := List.mem_map.1 hb
  exact byteAt_bd v j
theorem low_succ (v : Int) (k : Nat) : low v (k + 1) = low v k ++ [byteAt v k] := by simp [low, List.range_succ]
theorem ofBytes_low (v : Int) (n : Nat) : ofBytes (low v n) = v % 256 ^ n := by
  induction n with
  | zero => simp [ofBytes, low, Int.emod_one]
  | succ n ih =>
    rw [low_succ, ofBytes_snoc, ih, low_length]
    unfold byteAt
    have hp : (0 : Int) < 256 ^ n := Int.pow_pos (by omega)
    rw [Int.pow_succ]
    generalize (256 : Int) ^ n = p at *
    have h1 := Int.emod_add_mul_ediv v p
    have h3 := Int.emod_nonneg v (show p ≠ 0 by omega)
    have h4 := Int.emod_lt_of_pos v hp
    generalize v / p = q at *
    have h2 : p * q = p * (q % 256) + p * 256 * (q / 256) := by
      rw [Int.mul_assoc, ← Int.mul_add]; congr 1; omega
    have h5 : v = v % p + p * (q % 256) + p * 256 * (q / 256) := by omega
    have h6 : p * (q % 256) ≤ p * 255 := Int.mul_le_mul_of_nonneg_left (by omega) (by omega)
    have h7 : 0 ≤ p * (q % 256) := Int.mul_nonneg (by omega) (by omega)
    generalize v % p = z at *
    have key : (z + p * (q % 256) + p * 256 * (q / 256)) % (p * 256) = z + p * (q % 256) := by
      rw [Int.add_mul_emod_self_left, Int.emod_eq_of_lt (by omega) (by omega)]
    rw [← h5] at key
    rw [key, Int.mul_comm p]
/-- a number's bytes are the bytes that it is of -/
theorem low_ofBytes : ∀ l : List Int, Bytes l → low (ofBytes l) l.length = l := by
  intro l
  induction l with
  | nil => intro _; rfl
  | cons a l ih =>
    intro h
    have ⟨h1, h2⟩ := h a (by simp)
    have e := ih fun b hb => h b (by simp [hb])
    unfold low at e ⊢
    rw [List.length_cons, List.range_succ_eq_map, List.map_cons, List.map_map]
    congr 1
    · unfold byteAt; simp only [ofBytes, Int.pow_zero, Int.ediv_one]; omega
    · have e2 : (byteAt (ofBytes (a :: l)) ∘ Nat.succ) = byteAt (ofBytes l) := by
        funext j
        simp only [Function.comp, byteAt, ofBytes]
        rw [show (256 : Int) ^ (Nat.succ j) = 256 * 256 ^ j by rw [Nat.succ_eq_add_one, Int.pow_succ, Int.mul_comm], ← Int.ediv_ediv_of_nonneg (by omega), show (a + 256 * ofBytes l) / 256 = ofBytes l by omega]
      rw [e2, e]

theorem div256 (n : Int) (k : Nat) : n / 256 ^ k / 256 = n / 256 ^ (k + 1) := by
  rw [Int.ediv_ediv_of_nonneg (Int.le_of_lt (Int.pow_pos (by omega))), Int.pow_succ]
theorem div_bd (n : Int) (k : Nat) (h0 : 0 ≤ n) (h1 : n ≤ 18446744073709551615) : 0 ≤ n / 256 ^ k ∧ n / 256 ^ k ≤ 18446744073709551615 :=
  ⟨Int.ediv_nonneg h0 (Int.le_of_lt (Int.pow_pos (by omega))), Int.le_trans (Int.ediv_le_self _ h0) h1⟩
theorem cut_succ (xs : List Int) (i k : Nat) (h : i + k < xs.length) : (xs.drop i).take (k + 1) = (xs.drop i).take k ++ [xs[i + k]?.getD 0] := by
  rw [List.take_succ_eq_append_getElem (by rw [List.length_drop]; omega), List.getElem_drop, List.getElem?_eq_getElem h]
  rfl

/-- the check of bytes -/
def chk (xs : List Int) : List Int := shaF (shaF xs)
theorem chk_len (xs : List Int) : (chk xs).length = 32 := shaF_len _
theorem chk_bytes (xs : List Int) : Bytes (chk xs) := shaF_bytes _
/-- a head -/
def headI (g n : Int) : List Int := low g 8 ++ low n 4 ++ chk (low g 8 ++ low n 4)
theorem headI_len (g n : Int) : (headI g n).length = 44 := by simp [headI, low_length, chk_len]
/-- the check of a frame -/
def fchk (g k : Int) (s : List Int) : List Int := chk (low g 8 ++ (low k 8 ++ s))
/-- a record behind its length -/
def recI (r : List Int) : List Int := low r.length 4 ++ r
theorem recI_len (r : List Int) : (recI r).length = r.length + 4 := by simp [recI, low_length]; omega
def frameI (g k : Int) (r : List Int) : List Int := recI r ++ fchk g k (recI r)
theorem frameI_len (g k : Int) (r : List Int) : (frameI g k r).length = r.length + 36 := by simp [frameI, recI_len, fchk, chk_len]
def framesI (g k : Int) : List (List Int) → List Int
  | [] => []
  | r :: t => frameI g k r ++ framesI g (k + 1) t
/-- how many bytes the frames of records have -/
def sizeI : List (List Int) → Nat
  | [] => 0
  | r :: t => (r.length + 36) + sizeI t
theorem framesI_len (g : Int) : ∀ (l : List (List Int)) (k : Int), (framesI g k l).length = sizeI l
  | [], _ => rfl
  | r :: t, k => by rw [framesI, List.length_append, frameI_len, framesI_len g t, sizeI]
theorem framesI_snoc (g : Int) : ∀ (l : List (List Int)) (k : Int) (r : List Int), framesI g k (l ++ [r]) = framesI g k l ++ frameI g (k + l.length) r
  | [], k, r => by simp [framesI]
  | a :: t, k, r => by
    rw [List.cons_append, framesI, framesI, framesI_snoc g t, List.append_assoc, List.length_cons]
    congr 3; omega
theorem framesI_append (g : Int) : ∀ (l m : List (List Int)) (k : Int), framesI g k (l ++ m) = framesI g k l ++ framesI g (k + l.length) m
  | [], m, k => by simp [framesI]
  | a :: t, m, k => by
    rw [List.cons_append, framesI, framesI, framesI_append g t, List.append_assoc, List.length_cons]
    congr 3; omega
theorem sizeI_append : ∀ (l m : List (List Int)), sizeI (l ++ m) = sizeI l + sizeI m
  | [], m => by simp [sizeI]
  | a :: t, m => by rw [List.cons_append, sizeI, sizeI, sizeI_append t]; omega
/-- the record of the frame at the front, and what stands behind it -/
def nxt (g k : Int) (b : List Int) : Option (List Int × List Int) :=
  if b.length < 36 then none
  else if 32768 < ofBytes (b.take 4) ∨ (b.length : Int) < ofBytes (b.take 4) + 36 then none
  else if fchk g k (b.take ((ofBytes (b.take 4)).toNat + 4)) = (b.drop ((ofBytes (b.take 4)).toNat + 4)).take 32 then
    some ((b.take ((ofBytes (b.take 4)).toNat + 4)).drop 4, b.drop ((ofBytes (b.take 4)).toNat + 36))
  else none
/-- the records of the frames that stand at the front -/
def wholeF (g : Int) : Nat → Int → List Int → List (List Int)
  | 0, _, _ => []
  | f + 1, k, b => match nxt g k b with
    | none => []
    | some (r, t) => r :: wholeF g f (k + 1) t
def wholeI (g : Int) (b : List Int) : List (List Int) := wholeF g b.length 0 b
/-- what a file has: its generation and its records -/
def lookI (f : Int) (b : List Int) : Option (Int × List (List Int)) :=
  if b.length < 44 then none
  else if chk (b.take 12) ≠ (b.drop 12).take 32 then none
  else if ofBytes (b.take 8) < 1 ∨ 4611686018427387904 < ofBytes (b.take 8) ∨ ofBytes (b.take 8) % 2 ≠ f then none
  else if ((wholeI (ofBytes (b.take 8)) (b.drop 44)).length : Int) < ofBytes ((b.drop 8).take 4) then none
  else some (ofBytes (b.take 8), wholeI (ofBytes (b.take 8)) (b.drop 44))
end Go.Proofs.YtfohemgfiidokaaGreatDoor
namespace Go.Proofs.YtfohemgfiidokaaGreatDoor
open Go.RowKit Go.Sort

theorem mk8b (n : Int) (k : Nat) (h : (n = 8 ∧ k = 8) ∨ (n = 4 ∧ k = 4)) (w : World) : ∃ W, (Instr.makeSlice 40 (.int .i64 n) (.int .i64 n)).run Tryz.prog w = .ok (.slice (some ⟨w.heap.size, 0, none⟩) k k) W ∧ RowT 5 .u8 w.heap.size (List.replicate k 0) W ∧ Below w.heap.size w W := by
  refine ⟨w.alloc (.cells ((List.replicate k 0).map (Value.int .u8)).toArray 5), ?_, RowT.new _ _ _ _, bel_alloc (Below.refl _ _) _⟩
  rcases h with ⟨rfl, rfl⟩ | ⟨rfl, rfl⟩ <;> kernel_rfl
theorem two_pow8 (k : Nat) : (2 : Int) ^ (8 * k) = 256 ^ k := by rw [Int.pow_mul]; rfl
theorem RowT.rowO {g k : Nat} {bs : List Int} {w : World} (h : RowT 5 .u8 g bs w) (hk : bs.length = k) (hm : k ≤ 1000000000) (B : Nat) (hB : B ≤ g) : RowO w B (.slice (some ⟨g, 0, none⟩) k k) bs :=
  ⟨by simp [u8s], .inr ⟨g, k, _, by rw [hk], hB, h, by omega, by unfold maxLen; omega, by simp [hk], by simp [u8s, hk]; rw [← hk, List.take_of_length_le (by simp)]⟩⟩

set_option maxRecDepth 100000 in
theorem low_c (x n : Int) (m : Nat) (w : World) (hn : (n = 8 ∧ m = 8) ∨ (n = 4 ∧ m = 4)) :
    Calls Tryz.prog 80 #[.int .u64 x, .int .i64 n] w fun e w' => ∃ v, e = .returned v ∧ RowO w' w.heap.size v (low x m) ∧ Below w.heap.size w w' := by
  obtain ⟨W, hmk, hr0, hb0⟩ := mk8b n m hn w
  have hm : (m : Int) ≤ 8 := by omega
  go_enter Tryz.func80, Tryz.ntmps80
  go_upto_region 2 with fail
  clear hmk hn
  go_wp2_with fail
  go_loopw [11] (fun iv wr => ∃ k : Nat, k ≤ m ∧ iv = .int .i64 k ∧ RowT 5 .u8 w.heap.size (low x k ++ List.replicate (m - k) 0) wr ∧ Below w.heap.size w wr) (fun i _ => m - (intOf i).toNat)
  case atStart => exact ⟨0, by omega, rfl, by simpa [low] using hr0, hb0⟩
  case round =>
    obtain ⟨k, hk, rfl, hr, hb⟩ := hrel
    by_cases hlt : k < m
    · have hw8 : IntKind.i64.wrap (8 * (k : Int)) = 8 * (k : Int) := by rw [IntKind.wrap_i64]; omega
      have hfz := hr.frozen k
      have hbs := hb.size
      have hc := hr.cell k (by simp [low_length]; omega)
      have hnew := hr.set k (byteAt x k)
      have hb1 := RowKit.Below.setCell hb (p := ⟨w.heap.size, k, none⟩) (Nat.le_refl _) (.int .u8 (byteAt x k))
      have hpw := two_pow8 k
      have hpp : (0 : Int) < 256 ^ k := Int.pow_pos (by omega)
      have he : (low x k ++ List.replicate (m - k) 0).set k (byteAt x k) = low x (k + 1) ++ List.replicate (m - (k + 1)) 0 := by
        rw [List.set_append_right _ _ (by rw [low_length]; omega), low_length, Nat.sub_self, low_succ, List.append_assoc, show m - k = (m - (k + 1)) + 1 by omega, List.replicate_succ]
        rfl
      rw [he] at hnew
      clear he
      go_wp2
      exact ⟨⟨k + 1, by omega, by go_num, hnew, hb1⟩, by simp [intOf]; omega⟩
    · have : k = m := by omega
      subst this
      go_wp2
      go_ret
      rw [Nat.sub_self, List.replicate_zero, List.append_nil] at hr
      exact ⟨.slice (some ⟨w.heap.size, 0, none⟩) k k, rfl, hr.rowO (low_length x k) (by omega) _ (Nat.le_refl _), hb⟩

theorem RdB.shape {w : World} {v : Value} {xs : List Int} (h : RdB w v xs) : ∃ a cap, v = .slice a xs.length cap ∧ xs.length ≤ cap := by
  rcases h with ⟨rfl, rfl⟩ | ⟨a, g, o, cap, rfl, hc, ha, hcell⟩
  · exact ⟨_, _, rfl, Nat.le_refl _⟩
  · exact ⟨_, _, rfl, hc⟩
set_option maxRecDepth 100000 in
theorem number_c (v : Value) (xs : List Int) (w : World) (h : RdB w v xs) (hb : Bytes xs) (hl : xs.length ≤ 8) :
    Calls Tryz.prog 70 #[v] w fun e w' => e = .returned (.int .u64 (ofBytes xs)) ∧ w' = w := by
  obtain ⟨a, cap, hv, hcap⟩ := h.shape
  have hcell : ∀ j, j < xs.length → ∃ g o, a = some ⟨g, o, none⟩ ∧ w.cell? ⟨g, o + j, none⟩ = some (.int .u8 (xs[j]?.getD 0)) := by
    rcases h with ⟨rfl, rfl⟩ | ⟨a', g, o, cap', rfl, hc, ha, hcell⟩
    · intro j hj; simp at hj
    · intro j hj
      cases hv
      exact ⟨g, o, by rw [ha (by omega)], hcell j hj⟩
  subst hv
  have HC := Lib.hid hcell
  clear hcell h
  go_enter Tryz.func70, Tryz.ntmps70
  go_upto_region 2 with fail
  go_loopw [2, 7] (fun m i wr => ∃ k : Nat, k ≤ xs.length ∧ i = .int .i64 k ∧ m = .int .u64 (ofBytes (xs.take k)) ∧ wr = w) (fun _ i _ => xs.length - (intOf i).toNat)
  case atStart => exact ⟨0, by omega, rfl, by simp [ofBytes], rfl⟩
  case round =>
    obtain ⟨k, hk, rfl, rfl, rfl⟩ := hrel
    by_cases hlt : k < xs.length
    · obtain ⟨g, o, rfl, hcell⟩ := HC.out k hlt
      have hcut := cut_succ xs 0 k (by omega)
      simp only [List.drop_zero, Nat.zero_add] at hcut
      have hbd := hb.at k (by omega)
      have hlen : (xs.take k).length = k := by rw [List.length_take]; omega
      have hbb := ofBytes_bd _ (hb.take k)
      have hsn := ofBytes_snoc (xs.take k) (xs[k]?.getD 0)
      rw [← hcut, hlen] at hsn
      rw [hlen] at hbb
      have hor := (or_byte _ (xs[k]?.getD 0) k (by omega) hbb.1 hbb.2 hbd.1 hbd.2).1
      rw [← hsn] at hor
      generalize ofBytes (xs.take k) = acc at *
      generalize xs[k]?.getD 0 = x at *
      have hw8 : IntKind.i64.wrap (8 * (k : Int)) = 8 * (k : Int) := by rw [IntKind.wrap_i64]; omega
      have HR := Lib.hid hor
      have hkl : (k : Int) < xs.length := by omega
      clear hor hsn hcut hbb hlen
      go_wp2
      exact ⟨⟨k + 1, by omega, by go_num, by rw [HR.out], trivial⟩, by simp [intOf]; omega⟩
    · have hkk : k = xs.length := by omega
      have hkl : ¬ (k : Int) < xs.length := by omega
      go_wp2
      go_ret
      exact ⟨rfl, rfl⟩
end Go.Proofs.YtfohemgfiidokaaGreatDoor
namespace Go.Proofs.YtfohemgfiidokaaGreatDoor
open Go.RowKit Go.Sort

theorem hash_row (ws : List Int) (g : Nat) (hsl : ws.length = 32) (W : World) (h : RowV 136 g (ws.map (Value.int .u8)) W) : RdB W (.slice (some ⟨g, 0, none⟩) 32 32) ws := by
  have := rdb_of_row (cap := 32) (w := W) (g := g) (xs := ws) h (by omega)
  rwa [hsl] at this

set_option maxRecDepth 100000 in
theorem twice_c (v : Value) (xs : List Int) (w : World) (hv : RdB w v xs) (hxb : Bytes xs) (hsz : xs.length ≤ 100000000000) (hk : KTab w) :
    Calls Tryz.prog 94 #[v] w fun e w' => e = .returned (.agg ((chk xs).map (Value.int .u8)).toArray) ∧ Below w.heap.size w w' := by
  have hs := sha_c v xs
  obtain ⟨ws, hws⟩ : ∃ ws, shaF xs = ws := ⟨_, rfl⟩
  have hwl := shaF_len xs
  have hwb := shaF_bytes xs
  rw [hws] at hwl hwb hs
  obtain ⟨vs, hvs⟩ : ∃ vs, chk xs = vs := ⟨_, rfl⟩
  have hvl := chk_len xs
  have hs2 : ∀ V v, RdB V v ws → KTab V → Calls Tryz.prog 100 #[v] V fun e w' => e = .returned (.agg (vs.map (Value.int .u8)).toArray) ∧ Below V.heap.size V w' := fun V v h1 h2 => by
    rw [← hvs, show chk xs = shaF ws by rw [← hws]; rfl]; exact sha_c v ws V h1 hwb (by omega) h2
  rw [hvs] at hvl
  have HS := Lib.hid (fun V h1 h2 => hs V h1 hxb hsz h2); have HS2 := Lib.hid hs2; have HV := Lib.hid hvs
  clear hs hs2 hws hvs
  have h1 : RowT 136 .u8 w.heap.size (List.replicate 32 0) (w.alloc (.cells ((List.replicate 32 0).map (Value.int .u8)).toArray 136)) := RowT.new _ _ _ _
  have h2 : Below w.heap.size w (w.alloc (.cells ((List.replicate 32 0).map (Value.int .u8)).toArray 136)) := bel_alloc (Below.refl _ _) _
  go_enter Tryz.func94, Tryz.ntmps94
  go_upto_region 1 with fail
  refine wp_gen (fun W => (∃ zs : List Value, zs.length = 32 ∧ RowV 136 w.heap.size zs W) ∧ Below w.heap.size w W) ⟨⟨_, by simp, h1⟩, h2⟩ ?_
  clear h1 h2
  rintro W ⟨⟨zs, hzl, h1⟩, h2⟩
  have HZ := Lib.hid (show zs.toArray.size = (vs.map (Value.int .u8)).toArray.size by simp [hzl, hvl])
  have HI := Lib.hid (info136 (vs.map (Value.int .u8)).toArray.size (by simpa using hvl))
  have HI1 := Lib.hid (info136 (ws.map (Value.int .u8)).toArray.size (by simpa using hwl))
  have HO := Lib.hid (oneCell_map .u8 vs)
  have HO1 := Lib.hid (oneCell_map .u8 ws)
  go_upto_region 2 with (first
    | (go_at_call 100; (with_reducible refine (HS.out _ (hv.keep h2) (hk.call h2)).mono ?_); rintro e w2 ⟨rfl, hb2⟩; have h3 := bel_call h2 hb2; have h12 := h1.call hb2)
    | (refine wpList_store_row rfl 136 _ _ rfl _ rfl _ rfl 136 _ (heap_alloc_new _ _) HI1.out (by simp [hwl]) HO1.out ?_))
  have hlt := h12.lt
  refine wp_gen (fun W2 => RowV 136 w2.heap.size (ws.map (Value.int .u8)) W2 ∧ RowV 136 w.heap.size zs W2 ∧ Below w.heap.size w W2) ⟨setRow_heap _ _ _ _ 136 _ (heap_alloc_new _ _), (h12.alloc _).setRow_other (by omega) _, _root_.Go.below_setRow (bel_alloc h3 _) (by omega) _⟩ ?_
  rintro W2 ⟨r1, r2, h4⟩
  have hr := hash_row ws w2.heap.size hwl W2 r1
  go_wp2_with (first
    | (go_at_call 100; (with_reducible refine (HS2.out _ _ hr (hk.call h4)).mono ?_); rintro e w4 ⟨rfl, hb4⟩; have h5 := bel_call h4 hb4; have h14 := r2.call hb4)
    | (refine wpList_store_row rfl 136 _ _ rfl _ rfl _ rfl 136 _ h14 HI.out HZ.out HO.out ?_))
  exact bodyPost_ret (v := .agg (vs.map (Value.int .u8)).toArray) (results_cell_row rfl _ _ _ 136 _ _ _ rfl (setRow_heap _ _ _ _ 136 _ h14) u_hash rfl HI.out) rfl ⟨by rw [HV.out], _root_.Go.below_setRow h5 (Nat.le_refl _) _⟩

set_option maxRecDepth 100000 in
theorem check_c (v : Value) (xs : List Int) (w : World) (hv : RdB w v xs) (hxb : Bytes xs) (hsz : xs.length ≤ 100000000000) (hk : KTab w) :
    Calls Tryz.prog 69 #[v] w fun e w' => ∃ v', e = .returned v' ∧ RdB w' v' (chk xs) ∧ Below w.heap.size w w' := by
  have hs := twice_c v xs w hv hxb hsz hk
  have hvl := chk_len xs
  generalize chk xs = vs at hs hvl ⊢
  have HI := Lib.hid (info136 (vs.map (Value.int .u8)).toArray.size (by simpa using hvl))
  have HO := Lib.hid (oneCell_map .u8 vs)
  go_enter Tryz.func69, Tryz.ntmps69
  go_upto_region 2 with (first
    | (go_at_call 94; (with_reducible refine hs.mono ?_); rintro e w2 ⟨rfl, hb2⟩)
    | (refine wpList_store_row rfl 136 _ _ rfl _ rfl _ rfl 136 _ (heap_alloc_new _ _) HI.out (by simp [hvl]) HO.out ?_))
  have hs2 := hb2.size
  refine wp_gen (fun W2 => RowV 136 w2.heap.size (vs.map (Value.int .u8)) W2 ∧ Below w.heap.size w W2) ⟨setRow_heap _ _ _ _ 136 _ (heap_alloc_new _ _), _root_.Go.below_setRow (bel_alloc hb2 _) (by omega) _⟩ ?_
  rintro W2 ⟨r1, h4⟩
  go_wp2
  go_ret
  exact ⟨.slice (some ⟨w2.heap.size, 0, none⟩) 32 32, rfl, hash_row vs w2.heap.size hvl W2 r1, h4⟩
end Go.Proofs.YtfohemgfiidokaaGreatDoor
namespace Go.Proofs.YtfohemgfiidokaaGreatDoor
open Go.RowKit Go.Sort

set_option maxRecDepth 100000 in
theorem head_c (g n : Int) (w : World) (hn : 0 ≤ n) (hn1 : n ≤ 1000000000) (hk : KTab w) :
    Calls Tryz.prog 47 #[.int .u64 g, .int .i64 n] w fun e w' => ∃ v, e = .returned v ∧ RowO w' w.heap.size v (headI g n) ∧ Below w.heap.size w w' := by
  have h8 := fun V => low_c g 8 8 V (.inl ⟨rfl, rfl⟩)
  have h4 := fun V => low_c n 4 4 V (.inr ⟨rfl, rfl⟩)
  have hl8 := low_length g 8
  have hl4 := low_length n 4
  have hb8 := low_bytes g 8
  have hb4 := low_bytes n 4
  have hw : IntKind.u64.wrap n = n := by rw [IntKind.wrap_u64]; omega
  unfold headI
  generalize low g 8 = a at *
  generalize low n 4 = b at *
  have hbb := hb8.append hb4
  have hlb : (a ++ b).length = 12 := by simp [hl8, hl4]
  have hc := fun V v h1 h2 => check_c v (a ++ b) V h1 hbb (by omega) h2
  have hcl := chk_len (a ++ b)
  generalize chk (a ++ b) = c at *
  have H8 := Lib.hid h8; have H4 := Lib.hid h4; have HC := Lib.hid hc; have HL := Lib.hid hlb
  clear h8 h4 hc hb8 hb4 hbb
  go_enter Tryz.func47, Tryz.ntmps47
  go_upto_region 2 with (first
    | (go_at_call 80; (with_reducible refine (H8.out _).mono ?_); rintro e w1 ⟨v1, rfl, hr1, hb1⟩; have hs1 := hb1.size; clear H8)
    | (go_at_call 80; (with_reducible refine (H4.out _).mono ?_); rintro e w2 ⟨v2, rfl, hr2, hb2⟩; have hb3 := bel_call hb1 hb2; have hr3 := RowO.keep hr1 hb2)
    | (at_builtin; refine wpList_append_rd rfl _ _ rfl w.heap.size hb3.size _ a rfl hr3 _ b rfl hr2.rd (by omega) ?_; intro v3 w3 hr4 hg3; have hb4 := grown_below hr3 hb3 hb3.size hg3))
  clear hr1 hb1 hr2 hb2 hb3 hr3 hg3
  have hs4 := hb4.size
  go_wp2_with (first
    | (go_at_call 69; (with_reducible refine (HC.out _ _ hr4.rd (hk.call hb4)).mono ?_); rintro e w5 ⟨v5, rfl, hr5, hb5⟩; have hb6 := bel_call hb4 hb5; have hr6 := RowO.keep hr4 hb5)
    | (at_builtin; refine wpList_append_rd rfl _ _ rfl w.heap.size hb6.size _ (a ++ b) rfl hr6 _ c rfl hr5 (by omega) ?_; intro v7 w7 hr7 hg7; have hb7 := grown_below hr6 hb6 hb6.size hg7))
  go_ret
  exact ⟨_, rfl, hr7, hb7⟩
end Go.Proofs.YtfohemgfiidokaaGreatDoor
