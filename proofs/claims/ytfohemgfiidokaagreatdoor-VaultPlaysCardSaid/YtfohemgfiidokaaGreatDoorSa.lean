/- SHA-256 in plain numbers: words, rounds, pieces, the padded text. -/
import Derived.Test.YtfohemgfiidokaaGreatDoorBa
namespace Go.Proofs.YtfohemgfiidokaaGreatDoor
open Go.RowKit Go.Sort

/-- a word -/
def Wd (x : Int) : Prop := 0 ≤ x ∧ x ≤ 4294967295
def Wds (l : List Int) : Prop := ∀ x ∈ l, Wd x
def Bytes (l : List Int) : Prop := ∀ b ∈ l, 0 ≤ b ∧ b ≤ 255
theorem Bytes.take {l : List Int} (h : Bytes l) (k : Nat) : Bytes (l.take k) := fun b hb => h b (List.mem_of_mem_take hb)
theorem Bytes.drop {l : List Int} (h : Bytes l) (k : Nat) : Bytes (l.drop k) := fun b hb => h b (List.mem_of_mem_drop hb)
theorem Bytes.append {l m : List Int} (h : Bytes l) (k : Bytes m) : Bytes (l ++ m) := fun b hb => by
  rcases List.mem_append.1 hb with e | e
  · exact h b e
  · exact k b e
theorem Bytes.at {l : List Int} (h : Bytes l) (j : Nat) (hj : j < l.length) : 0 ≤ l[j]?.getD 0 ∧ l[j]?.getD 0 ≤ 255 := by
  rw [List.getElem?_eq_getElem hj]; exact h _ (List.getElem_mem _)
theorem Wds.at {l : List Int} (h : Wds l) (j : Nat) (hj : j < l.length) : 0 ≤ l[j]?.getD 0 ∧ l[j]?.getD 0 ≤ 4294967295 := by
  rw [List.getElem?_eq_getElem hj]; exact h _ (List.getElem_mem _)
theorem wrap_wd (x : Int) : 0 ≤ IntKind.u32.wrap x ∧ IntKind.u32.wrap x ≤ 4294967295 := by rw [IntKind.wrap_u32]; omega
theorem bits_bv (op : BinOp) (a b : Int) (f : BitVec 32 → BitVec 32 → BitVec 32) (h : bits op .u32 a b = IntKind.u32.wrap ((f (BitVec.ofInt 32 a) (BitVec.ofInt 32 b)).toNat : Nat)) : bits op .u32 a b = ((f (BitVec.ofInt 32 a) (BitVec.ofInt 32 b)).toNat : Nat) := by
  rw [h, IntKind.wrap_u32]
  have := (f (BitVec.ofInt 32 a) (BitVec.ofInt 32 b)).isLt
  omega
theorem and_bv (a b : Int) : bits .and .u32 a b = ((BitVec.ofInt 32 a &&& BitVec.ofInt 32 b).toNat : Nat) := bits_bv .and a b (· &&& ·) rfl
theorem or_bv (a b : Int) : bits .or .u32 a b = ((BitVec.ofInt 32 a ||| BitVec.ofInt 32 b).toNat : Nat) := bits_bv .or a b (· ||| ·) rfl
theorem xor_bv (a b : Int) : bits .xor .u32 a b = ((BitVec.ofInt 32 a ^^^ BitVec.ofInt 32 b).toNat : Nat) := bits_bv .xor a b (· ^^^ ·) rfl
theorem bv_int (x : BitVec 32) : BitVec.ofInt 32 (x.toNat : Int) = x := by
  rw [BitVec.ofInt_natCast, BitVec.ofNat_toNat, BitVec.setWidth_eq]
theorem bits_wd (op : BinOp) (a b : Int) (h : op = .and ∨ op = .or ∨ op = .xor) : 0 ≤ bits op .u32 a b ∧ bits op .u32 a b ≤ 4294967295 := by
  rcases h with rfl | rfl | rfl
  · rw [and_bv]; have := (BitVec.ofInt 32 a &&& BitVec.ofInt 32 b).isLt; omega
  · rw [or_bv]; have := (BitVec.ofInt 32 a ||| BitVec.ofInt 32 b).isLt; omega
  · rw [xor_bv]; have := (BitVec.ofInt 32 a ^^^ BitVec.ofInt 32 b).isLt; omega
theorem or_comm32 (a b : Int) : bits .or .u32 a b = bits .or .u32 b a := by rw [or_bv, or_bv, BitVec.or_comm]

/-- turned round to the right -/
def rr (x : Int) (n : Nat) : Int := bits .or .u32 (IntKind.u32.wrap (x * 2 ^ (32 - n))) (x / 2 ^ n)
def chF (e f g : Int) : Int := bits .xor .u32 g (bits .and .u32 e (bits .xor .u32 f g))
def majF (a b c : Int) : Int := bits .or .u32 (bits .and .u32 a b) (bits .and .u32 c (bits .or .u32 a b))
def bigS1 (e : Int) : Int := bits .xor .u32 (bits .xor .u32 (rr e 6) (rr e 11)) (rr e 25)
def bigS0 (a : Int) : Int := bits .xor .u32 (bits .xor .u32 (rr a 2) (rr a 13)) (rr a 22)
def sml0 (x : Int) : Int := bits .xor .u32 (bits .xor .u32 (rr x 7) (rr x 18)) (x / 8)
def sml1 (x : Int) : Int := bits .xor .u32 (bits .xor .u32 (rr x 17) (rr x 19)) (x / 1024)
/-- the document's choice and majority -/
theorem ch_eq (e f g : Int) : bits .xor .u32 (bits .and .u32 e f) (bits .and .u32 (bits .xor .u32 4294967295 e) g) = chF e f g := by
  unfold chF
  simp only [and_bv, xor_bv, bv_int]
  congr 2
  have hm : BitVec.ofInt 32 4294967295 = BitVec.allOnes 32 := by decide
  rw [hm]
  generalize BitVec.ofInt 32 e = x
  generalize BitVec.ofInt 32 f = y
  generalize BitVec.ofInt 32 g = z
  apply BitVec.eq_of_getLsbD_eq
  intro i hi
  simp only [BitVec.getLsbD_xor, BitVec.getLsbD_and, BitVec.getLsbD_allOnes, hi, decide_true]
  cases x.getLsbD i <;> cases y.getLsbD i <;> cases z.getLsbD i <;> rfl
theorem maj_eq (a b c : Int) : bits .xor .u32 (bits .xor .u32 (bits .and .u32 a b) (bits .and .u32 a c)) (bits .and .u32 b c) = majF a b c := by
  unfold majF
  simp only [and_bv, xor_bv, or_bv, bv_int]
  congr 2
  generalize BitVec.ofInt 32 a = x
  generalize BitVec.ofInt 32 b = y
  generalize BitVec.ofInt 32 c = z
  apply BitVec.eq_of_getLsbD_eq
  intro i hi
  simp only [BitVec.getLsbD_xor, BitVec.getLsbD_and, BitVec.getLsbD_or]
  cases x.getLsbD i <;> cases y.getLsbD i <;> cases z.getLsbD i <;> rfl
theorem chF_wd (e f g : Int) : 0 ≤ chF e f g ∧ chF e f g ≤ 4294967295 := bits_wd _ _ _ (by simp)
theorem majF_wd (a b c : Int) : 0 ≤ majF a b c ∧ majF a b c ≤ 4294967295 := bits_wd _ _ _ (by simp)
theorem bigS1_wd (e : Int) : 0 ≤ bigS1 e ∧ bigS1 e ≤ 4294967295 := bits_wd _ _ _ (by simp)
theorem bigS0_wd (e : Int) : 0 ≤ bigS0 e ∧ bigS0 e ≤ 4294967295 := bits_wd _ _ _ (by simp)
theorem sml0_wd (e : Int) : 0 ≤ sml0 e ∧ sml0 e ≤ 4294967295 := bits_wd _ _ _ (by simp)
theorem sml1_wd (e : Int) : 0 ≤ sml1 e ∧ sml1 e ≤ 4294967295 := bits_wd _ _ _ (by simp)
theorem rr_wd (x : Int) (n : Nat) : 0 ≤ rr x n ∧ rr x n ≤ 4294967295 := bits_wd _ _ _ (by simp)

/-- the eight words of a round -/
structure St8 where
  a : Int
  b : Int
  c : Int
  d : Int
  e : Int
  f : Int
  g : Int
  h : Int
def St8.l (s : St8) : List Int := [s.a, s.b, s.c, s.d, s.e, s.f, s.g, s.h]
def St8.of (l : List Int) : St8 := ⟨l[0]?.getD 0, l[1]?.getD 0, l[2]?.getD 0, l[3]?.getD 0, l[4]?.getD 0, l[5]?.getD 0, l[6]?.getD 0, l[7]?.getD 0⟩
theorem St8.of_l (l : List Int) (hl : l.length = 8) : (St8.of l).l = l := by
  match l, hl with
  | [_, _, _, _, _, _, _, _], _ => rfl
structure St8.Wd (s : St8) : Prop where
  a : 0 ≤ s.a ∧ s.a ≤ 4294967295
  b : 0 ≤ s.b ∧ s.b ≤ 4294967295
  c : 0 ≤ s.c ∧ s.c ≤ 4294967295
  d : 0 ≤ s.d ∧ s.d ≤ 4294967295
  e : 0 ≤ s.e ∧ s.e ≤ 4294967295
  f : 0 ≤ s.f ∧ s.f ≤ 4294967295
  g : 0 ≤ s.g ∧ s.g ≤ 4294967295
  h : 0 ≤ s.h ∧ s.h ≤ 4294967295
def one8 (s : St8) (k w : Int) : Int := IntKind.u32.wrap (IntKind.u32.wrap (IntKind.u32.wrap (IntKind.u32.wrap (s.h + bigS1 s.e) + chF s.e s.f s.g) + k) + w)
def two8 (s : St8) : Int := IntKind.u32.wrap (bigS0 s.a + majF s.a s.b s.c)
/-- one round -/
def rnd (s : St8) (k w : Int) : St8 := ⟨IntKind.u32.wrap (one8 s k w + two8 s), s.a, s.b, s.c, IntKind.u32.wrap (s.d + one8 s k w), s.e, s.f, s.g⟩
theorem rnd_wd {s : St8} (h : s.Wd) (k w : Int) : (rnd s k w).Wd := ⟨wrap_wd _, h.a, h.b, h.c, wrap_wd _, h.e, h.f, h.g⟩
/-- four bytes as a word, the greatest first -/
def be4 (p : List Int) (t : Nat) : Int := p[4 * t]?.getD 0 * 16777216 + p[4 * t + 1]?.getD 0 * 65536 + p[4 * t + 2]?.getD 0 * 256 + p[4 * t + 3]?.getD 0
def nextW (w : List Int) (t : Nat) : Int := IntKind.u32.wrap (IntKind.u32.wrap (IntKind.u32.wrap (w[t - 16]?.getD 0 + w[t - 7]?.getD 0) + sml0 (w[t - 15]?.getD 0)) + sml1 (w[t - 2]?.getD 0))
theorem nextW_ref (a b c d : Int) : IntKind.u32.wrap (IntKind.u32.wrap (IntKind.u32.wrap (d + b) + c) + a) = IntKind.u32.wrap (IntKind.u32.wrap (IntKind.u32.wrap (a + b) + c) + d) := by
  simp only [IntKind.wrap_u32]; omega
/-- the first words of a piece -/
def sch (p : List Int) : Nat → List Int
  | 0 => []
  | t + 1 => sch p t ++ [if t < 16 then be4 p t else nextW (sch p t) t]
theorem sch_len (p : List Int) (t : Nat) : (sch p t).length = t := by
  induction t with
  | zero => rfl
  | succ t ih => simp [sch, ih]
theorem be4_wd (p : List Int) (hp : Bytes p) (t : Nat) (h : 4 * t + 3 < p.length) : 0 ≤ be4 p t ∧ be4 p t ≤ 4294967295 := by
  have h0 := hp.at (4 * t) (by omega)
  have h1 := hp.at (4 * t + 1) (by omega)
  have h2 := hp.at (4 * t + 2) (by omega)
  have h3 := hp.at (4 * t + 3) (by omega)
  unfold be4; omega
theorem sch_wds (p : List Int) (hp : Bytes p) (hl : p.length = 64) (t : Nat) : Wds (sch p t) := by
  induction t with
  | zero => intro x hx; simp [sch] at hx
  | succ t ih =>
    intro x hx
    simp only [sch, List.mem_append, List.mem_singleton] at hx
    rcases hx with hx | rfl
    · exact ih x hx
    · split
      · exact be4_wd p hp t (by omega)
      · exact wrap_wd _
theorem sch_get (p : List Int) (t j : Nat) (h : j < t) : (sch p t)[j]?.getD 0 = (sch p (j + 1))[j]?.getD 0 := by
  induction t with
  | zero => omega
  | succ t ih =>
    by_cases hj : j = t
    · subst hj; rfl
    · have : (sch p (t + 1))[j]? = (sch p t)[j]? := by
        simp only [sch]; rw [List.getElem?_append_left (by rw [sch_len]; omega)]
      rw [this]; exact ih (by omega)
/-- the table -/
def kTab : List Int := [0x428a2f98, 0x71374491, 0xb5c0fbcf, 0xe9b5dba5, 0x3956c25b, 0x59f111f1, 0x923f82a4, 0xab1c5ed5,
    0xd807aa98, 0x12835b01, 0x243185be, 0x550c7dc3, 0x72be5d74, 0x80deb1fe, 0x9bdc06a7, 0xc19bf174,
    0xe49b69c1, 0xefbe4786, 0x0fc19dc6, 0x240ca1cc, 0x2de92c6f, 0x4a7484aa, 0x5cb0a9dc, 0x76f988da,
    0x983e5152, 0xa831c66d, 0xb00327c8, 0xbf597fc7, 0xc6e00bf3, 0xd5a79147, 0x06ca6351, 0x14292967,
    0x27b70a85, 0x2e1b2138, 0x4d2c6dfc, 0x53380d13, 0x650a7354, 0x766a0abb, 0x81c2c92e, 0x92722c85,
    0xa2bfe8a1, 0xa81a664b, 0xc24b8b70, 0xc76c51a3, 0xd192e819, 0xd6990624, 0xf40e3585, 0x106aa070,
    0x19a4c116, 0x1e376c08, 0x2748774c, 0x34b0bcb5, 0x391c0cb3, 0x4ed8aa4a, 0x5b9cca4f, 0x682e6ff3,
    0x748f82ee, 0x78a5636f, 0x84c87814, 0x8cc70208, 0x90befffa, 0xa4506ceb, 0xbef9a3f7, 0xc67178f2]
theorem kTab_len : kTab.length = 64 := rfl
theorem kTab_wds : Wds kTab := by
  intro x hx
  have : ∀ y ∈ kTab, 0 ≤ y ∧ y ≤ 4294967295 := by decide
  exact this x hx
/-- the rounds -/
def rnds (p : List Int) (s : St8) : Nat → St8
  | 0 => s
  | t + 1 => rnd (rnds p s t) (kTab[t]?.getD 0) ((sch p 64)[t]?.getD 0)
theorem rnds_wd (p : List Int) {s : St8} (h : s.Wd) (t : Nat) : (rnds p s t).Wd := by
  induction t with
  | zero => exact h
  | succ t ih => exact rnd_wd ih _ _
/-- two rows of words added -/
def addW (a b : List Int) : List Int := List.zipWith (fun x y => IntKind.u32.wrap (x + y)) a b
/-- the words behind one piece more -/
def comp (h p : List Int) : List Int := addW h (rnds p (St8.of h) 64).l
def h0L : List Int := [0x6a09e667, 0xbb67ae85, 0x3c6ef372, 0xa54ff53a, 0x510e527f, 0x9b05688c, 0x1f83d9ab, 0x5be0cd19]
theorem comp_len (h p : List Int) (hl : h.length = 8) : (comp h p).length = 8 := by
  simp [comp, addW, St8.l, hl]
theorem comp_wds (h p : List Int) : Wds (comp h p) := by
  intro x hx
  obtain ⟨i, hi, rfl⟩ := List.getElem_of_mem hx
  simp only [comp, addW, List.getElem_zipWith]
  exact wrap_wd _
theorem h0_wds : Wds h0L := by
  intro x hx
  have : ∀ y ∈ h0L, 0 ≤ y ∧ y ≤ 4294967295 := by decide
  exact this x hx
theorem of_wd {l : List Int} (hl : l.length = 8) (h : Wds l) : (St8.of l).Wd :=
  ⟨h.at 0 (by omega), h.at 1 (by omega), h.at 2 (by omega), h.at 3 (by omega), h.at 4 (by omega), h.at 5 (by omega), h.at 6 (by omega), h.at 7 (by omega)⟩
/-- the words behind so many pieces of a text -/
def blk (xs : List Int) : Nat → List Int
  | 0 => h0L
  | i + 1 => comp (blk xs i) ((xs.drop (64 * i)).take 64)
theorem blk_len (xs : List Int) (i : Nat) : (blk xs i).length = 8 := by
  induction i with
  | zero => rfl
  | succ i ih => exact comp_len _ _ ih
theorem blk_wds (xs : List Int) (i : Nat) : Wds (blk xs i) := by
  cases i with
  | zero => exact h0_wds
  | succ i => exact comp_wds _ _
/-- what stands behind does not turn the pieces ahead -/
theorem blk_append (xs ys : List Int) (i : Nat) (h : 64 * i ≤ xs.length) : blk (xs ++ ys) i = blk xs i := by
  induction i with
  | zero => rfl
  | succ i ih =>
    simp only [blk]
    rw [ih (by omega), List.drop_append_of_le_length (by omega), List.take_append_of_le_length (by rw [List.length_drop]; omega)]
/-- bytes of a number, the greatest first -/
def be8 (n : Int) : List Int := (List.range 8).map fun i => n / 2 ^ (56 - 8 * i) % 256
def padZ (n : Nat) : Nat := (119 - n % 64) % 64
/-- the text that is summed -/
def padL (xs : List Int) : List Int := xs ++ ([128] ++ (List.replicate (padZ xs.length) 0 ++ be8 (8 * xs.length)))
theorem padL_len (xs : List Int) : (padL xs).length = xs.length + 1 + padZ xs.length + 8 := by simp [padL, be8]; omega
theorem padL_mod (xs : List Int) : (padL xs).length % 64 = 0 := by rw [padL_len]; unfold padZ; omega
/-- the sum's bytes -/
def digest (h : List Int) : List Int := (List.range 32).map fun i => h[i / 4]?.getD 0 / 2 ^ (24 - 8 * (i % 4)) % 256
/-- SHA-256 -/
def shaF (xs : List Int) : List Int := digest (blk (padL xs) ((padL xs).length / 64))
theorem shaF_len (xs : List Int) : (shaF xs).length = 32 := by simp [shaF, digest]
theorem shaF_bytes (xs : List Int) : Bytes (shaF xs) := by
  intro b hb
  simp only [shaF, digest, List.mem_map] at hb
  obtain ⟨i, _, rfl⟩ := hb
  omega
end Go.Proofs.YtfohemgfiidokaaGreatDoor
