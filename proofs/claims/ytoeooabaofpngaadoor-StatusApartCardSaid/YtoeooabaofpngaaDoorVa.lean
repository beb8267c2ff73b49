/- Histories in plain words: entries, their text, which may be. -/
import Derived.Test.YtoeooabaofpngaaDoorUe
import Derived.Lib.ItoaNum
namespace Go.Proofs.YtoeooabaofpngaaDoor
open Go.RowKit Go.Sort

theorem str_app (a b : List Int) : strOfNums a ++ strOfNums b = strOfNums (a ++ b) := by
  apply ByteArray.ext
  simp [strOfNums]
/-- a number's digits, the first ahead -/
def decI (u : Nat) : List Int := (Lib.decDigits u).map fun b => (b.toNat : Int)
def itoI (n : Int) : List Int := (Lib.itoa n).map fun b => (b.toNat : Int)
theorem decI_small (u : Nat) (h : u < 10) : decI u = [48 + (u : Int)] := by
  unfold decI
  rw [Lib.decDigits_one h]
  simp only [List.map_cons, List.map_nil, UInt8.toNat_ofNat']
  congr 1; omega
theorem decI_big (u : Nat) (h : ¬ u < 10) : decI u = decI (u / 10) ++ [48 + ((u % 10 : Nat) : Int)] := by
  unfold decI
  rw [Lib.decDigits, dif_neg h]
  simp only [List.map_append, List.map_cons, List.map_nil, UInt8.toNat_ofNat']
  congr 2; omega
theorem decI_lo (u : Nat) : ∀ b ∈ decI u, 48 ≤ b ∧ b ≤ 57 := by
  induction u using Nat.strongRecOn with
  | _ u ih =>
    intro b hb
    by_cases h : u < 10
    · rw [decI_small u h] at hb; simp at hb; omega
    · rw [decI_big u h] at hb
      rcases List.mem_append.1 hb with hb | hb
      · exact ih (u / 10) (by omega) b hb
      · simp at hb; omega
theorem decI_len (k : Nat) : ∀ u, u < 10 ^ (k + 1) → (decI u).length ≤ k + 1 := by
  induction k with
  | zero => intro u h; rw [decI_small u (by simpa using h)]; simp
  | succ k ih =>
    intro u h
    by_cases h1 : u < 10
    · rw [decI_small u h1]; simp
    · rw [decI_big u h1, List.length_append]
      have := ih (u / 10) (by rw [Nat.pow_succ] at h; omega)
      simp; omega
def valI (l : List Int) : Int := l.foldl (fun a d => 10 * a + (d - 48)) 0
theorem valI_dec (u : Nat) : valI (decI u) = u := by
  induction u using Nat.strongRecOn with
  | _ u ih =>
    by_cases h : u < 10
    · rw [decI_small u h]; simp [valI]; omega
    · rw [decI_big u h]
      have := ih (u / 10) (by omega)
      unfold valI at this ⊢
      rw [List.foldl_append, this]
      simp; omega
theorem itoI_pos (n : Int) (h : 0 ≤ n) : itoI n = decI n.toNat := by unfold itoI Lib.itoa decI; rw [if_neg (by omega)]
theorem itoI_neg (n : Int) (h : n < 0) : itoI n = 45 :: decI n.natAbs := by unfold itoI Lib.itoa decI; rw [if_pos h]; rfl
theorem decI_ne (u : Nat) : decI u ≠ [] := by
  by_cases h : u < 10
  · rw [decI_small u h]; simp
  · rw [decI_big u h]; simp
theorem itoI_inj {n m : Int} (h : itoI n = itoI m) : n = m := by
  by_cases hn : 0 ≤ n <;> by_cases hm : 0 ≤ m
  · rw [itoI_pos n hn, itoI_pos m hm] at h
    have := congrArg valI h
    rw [valI_dec, valI_dec] at this; omega
  · rw [itoI_pos n hn, itoI_neg m (by omega)] at h
    have := decI_lo n.toNat 45 (by rw [h]; simp); omega
  · rw [itoI_neg n (by omega), itoI_pos m hm] at h
    have := decI_lo m.toNat 45 (by rw [← h]; simp); omega
  · rw [itoI_neg n (by omega), itoI_neg m (by omega)] at h
    have := congrArg valI (List.cons.inj h).2
    rw [valI_dec, valI_dec] at this; omega
theorem itoI_no58 (n : Int) : (58 : Int) ∉ itoI n := by
  intro h
  by_cases hn : 0 ≤ n
  · rw [itoI_pos n hn] at h; have := decI_lo _ _ h; omega
  · rw [itoI_neg n (by omega)] at h
    rcases List.mem_cons.1 h with h | h
    · omega
    · have := decI_lo _ _ h; omega
theorem itoI_bytes (n : Int) : Bytes (itoI n) := by
  intro b h
  by_cases hn : 0 ≤ n
  · rw [itoI_pos n hn] at h; have := decI_lo _ _ h; omega
  · rw [itoI_neg n (by omega)] at h
    rcases List.mem_cons.1 h with h | h
    · omega
    · have := decI_lo _ _ h; omega
theorem itoI_len (n : Int) (h0 : -9223372036854775808 ≤ n) (h1 : n ≤ 9223372036854775807) : (itoI n).length ≤ 20 := by
  by_cases hn : 0 ≤ n
  · rw [itoI_pos n hn]; have := decI_len 18 n.toNat (by omega); omega
  · rw [itoI_neg n (by omega)]; have := decI_len 18 n.natAbs (by omega); simp; omega
theorem itoa_str (n : Int) : (⟨(Lib.itoa n).toArray⟩ : ByteArray) = strOfNums (itoI n) := by
  unfold strOfNums itoI
  rw [List.map_map]
  have : ((fun n : Int => UInt8.ofNat n.toNat) ∘ fun b : UInt8 => (b.toNat : Int)) = id := by
    funext b
    show UInt8.ofNat ((b.toNat : Int)).toNat = b
    rw [Int.toNat_natCast]; exact UInt8.ofNat_toNat
  rw [this, List.map_id]

/-- an entry of a history -/
structure En where
  h : Int
  t : List Int
structure En.Ok (x : En) : Prop where
  lo : -9223372036854775808 ≤ x.h
  hi : x.h ≤ 9223372036854775807
  l : x.t.length = 32
  b : Bytes x.t
def EnsOk (l : List En) : Prop := ∀ x ∈ l, x.Ok
/-- an entry's text -/
def enT (x : En) : List Int := hexI x.t.reverse ++ ([58] ++ (itoI x.h ++ [58]))
/-- the text that is hashed -/
def txF (l : List En) : List Int := l.flatMap enT
theorem enT_len (x : En) (o : x.Ok) : (enT x).length ≤ 86 := by
  have := itoI_len x.h o.lo o.hi
  simp [enT, hexI_len, o.l]; omega
theorem txF_len (l : List En) (o : EnsOk l) : (txF l).length ≤ 86 * l.length := by
  induction l with
  | nil => simp [txF]
  | cons x l ih =>
    have h1 := enT_len x (o x (by simp))
    have h2 := ih fun y hy => o y (by simp [hy])
    unfold txF at h2 ⊢
    rw [List.flatMap_cons, List.length_append, List.length_cons]; omega
theorem enT_bytes (x : En) (o : x.Ok) : Bytes (enT x) := by
  have h58 : Bytes [58] := fun b hb => by simp at hb; omega
  exact (hexI_bytes _ (fun b hb => o.b b (by simpa using hb))).append (h58.append ((itoI_bytes _).append h58))
theorem txF_bytes (l : List En) (o : EnsOk l) : Bytes (txF l) := by
  intro b hb
  obtain ⟨x, hx, hb⟩ := List.mem_flatMap.1 hb
  exact enT_bytes x (o x hx) b hb
theorem txF_snoc (l : List En) (x : En) : txF (l ++ [x]) = txF l ++ enT x := by simp [txF]
theorem cut58 : ∀ (a a' b b' : List Int), (58 : Int) ∉ a → (58 : Int) ∉ a' → a ++ 58 :: b = a' ++ 58 :: b' → a = a' ∧ b = b'
  | [], [], b, b', _, _, h => by simpa using h
  | [], y :: a', b, b', _, h2, h => by
    have := (List.cons.inj h).1
    exact absurd (by rw [this]; simp) h2
  | x :: a, [], b, b', h1, _, h => by
    have := (List.cons.inj h).1
    exact absurd (by rw [← this]; simp) h1
  | x :: a, y :: a', b, b', h1, h2, h => by
    obtain ⟨e1, e2⟩ := List.cons.inj h
    obtain ⟨rfl, rfl⟩ := cut58 a a' b b' (fun e => h1 (by simp [e])) (fun e => h2 (by simp [e])) e2
    subst e1
    exact ⟨rfl, rfl⟩
theorem hexI_inj {a b : List Int} (ha : Bytes a) (hb : Bytes b) (h : hexI a = hexI b) : a = b := by
  have := unhex_hex a ha
  rw [h, unhex_hex b hb] at this
  exact (Option.some.inj this).symm
theorem enT_inj {x y : En} (ox : x.Ok) (oy : y.Ok) (r s : List Int) (h : enT x ++ r = enT y ++ s) : x = y ∧ r = s := by
  unfold enT at h
  simp only [List.append_assoc] at h
  have hl : (hexI x.t.reverse).length = (hexI y.t.reverse).length := by simp [hexI_len, ox.l, oy.l]
  obtain ⟨h1, h2⟩ := List.append_inj h hl
  have h1 := hexI_inj (fun b hb => ox.b b (by simpa using hb)) (fun b hb => oy.b b (by simpa using hb)) h1
  have ht : x.t = y.t := by simpa using congrArg List.reverse h1
  have h3 := (List.cons.inj h2).2
  obtain ⟨h4, h5⟩ := cut58 _ _ _ _ (itoI_no58 _) (itoI_no58 _) h3
  have hh := itoI_inj h4
  refine ⟨?_, h5⟩
  cases x; cases y; simp at ht hh; simp [ht, hh]
theorem enT_ne (x : En) : enT x ≠ [] := by simp [enT]
theorem txF_inj : ∀ (l m : List En), EnsOk l → EnsOk m → txF l = txF m → l = m
  | [], [], _, _, _ => rfl
  | [], y :: m, _, _, h => by
    have : enT y ++ txF m = [] := h.symm
    exact absurd (List.append_eq_nil_iff.1 this).1 (enT_ne y)
  | x :: l, [], _, _, h => by
    have : enT x ++ txF l = [] := h
    exact absurd (List.append_eq_nil_iff.1 this).1 (enT_ne x)
  | x :: l, y :: m, ol, om, h => by
    have h' : enT x ++ txF l = enT y ++ txF m := h
    obtain ⟨rfl, h2⟩ := enT_inj (ol x (by simp)) (om y (by simp)) _ _ h'
    rw [txF_inj l m (fun z hz => ol z (by simp [hz])) (fun z hz => om z (by simp [hz])) h2]
/-- a history in one word -/
def ofF (l : List En) : List Int := if l = [] then [] else hexI (shaF (txF l))
theorem ofF_nil : ofF [] = [] := rfl
theorem ofF_ne (l : List En) (h : l ≠ []) : ofF l = hexI (shaF (txF l)) := by unfold ofF; rw [if_neg h]
theorem ofF_bytes (l : List En) : Bytes (ofF l) := by
  unfold ofF
  split
  · intro b hb; simp at hb
  · exact hexI_bytes _ (shaF_bytes _)
/-- may a history be? -/
def Rgt (l : List En) : Prop := (∀ x ∈ l, 1 ≤ x.h) ∧ l.Pairwise fun x y => x.h ≤ y.h ∧ x.t ≠ y.t
def rgtB (l : List En) : Bool := decide ((∀ x ∈ l, 1 ≤ x.h) ∧ l.Pairwise fun x y => x.h ≤ y.h ∧ x.t ≠ y.t)
theorem rgtB_iff (l : List En) : rgtB l = true ↔ Rgt l := decide_eq_true_iff
theorem rgtB_no (l : List En) (h : ¬ Rgt l) : rgtB l = false := decide_eq_false h
theorem rgt_nil : Rgt [] := ⟨fun x hx => by simp at hx, List.Pairwise.nil⟩
theorem rgt_snoc (l : List En) (x : En) : Rgt (l ++ [x]) ↔ Rgt l ∧ 1 ≤ x.h ∧ ∀ y ∈ l, y.h ≤ x.h ∧ y.t ≠ x.t := by
  unfold Rgt
  rw [List.pairwise_append]
  constructor
  · rintro ⟨h1, h2, -, h3⟩
    exact ⟨⟨fun y hy => h1 y (by simp [hy]), h2⟩, h1 x (by simp), fun y hy => h3 y hy x (by simp)⟩
  · rintro ⟨⟨h1, h2⟩, h3, h4⟩
    refine ⟨fun y hy => ?_, h2, by simp, fun y hy z hz => by rw [List.mem_singleton.1 hz]; exact h4 y hy⟩
    rcases List.mem_append.1 hy with hy | hy
    · exact h1 y hy
    · rw [List.mem_singleton.1 hy]; exact h3
/-- the last height, 1 where there is none -/
def lastH : List En → Int
  | [] => 1
  | x :: l => if l = [] then x.h else lastH l
theorem lastH_snoc (l : List En) (x : En) : lastH (l ++ [x]) = x.h := by
  induction l with
  | nil => rfl
  | cons y l ih => simp [lastH, ih]
theorem lastH_top (l : List En) (h : Rgt l) : 1 ≤ lastH l ∧ ∀ y ∈ l, y.h ≤ lastH l := by
  rcases List.eq_nil_or_concat l with rfl | ⟨m, x, rfl⟩
  · exact ⟨by simp [lastH], fun y hy => by simp at hy⟩
  · rw [List.concat_eq_append] at h ⊢
    rw [lastH_snoc]
    obtain ⟨-, h2, h3⟩ := (rgt_snoc m x).1 h
    refine ⟨h2, fun y hy => ?_⟩
    rcases List.mem_append.1 hy with hy | hy
    · exact (h3 y hy).1
    · rw [List.mem_singleton.1 hy]; omega
theorem rgt_step (l : List En) (x : En) (h : Rgt l) (h1 : x.t ∉ l.map En.t) (h2 : lastH l ≤ x.h) : Rgt (l ++ [x]) := by
  obtain ⟨a, b⟩ := lastH_top l h
  exact (rgt_snoc l x).2 ⟨h, by omega, fun y hy => ⟨by have := b y hy; omega, fun e => h1 (by rw [← e]; exact List.mem_map_of_mem hy)⟩⟩
theorem lastH_mem (l : List En) : l = [] ∨ ∃ y ∈ l, lastH l = y.h := by
  rcases List.eq_nil_or_concat l with rfl | ⟨m, x, rfl⟩
  · exact .inl rfl
  · rw [List.concat_eq_append, lastH_snoc]
    exact .inr ⟨x, by simp, rfl⟩
theorem rgt_stop (l : List En) (x : En) (h : x.t ∈ l.map En.t ∨ x.h < lastH l) : ¬ Rgt (l ++ [x]) := by
  intro hr
  obtain ⟨-, h2, h3⟩ := (rgt_snoc l x).1 hr
  rcases h with h | h
  · obtain ⟨y, hy, e⟩ := List.mem_map.1 h
    exact (h3 y hy).2 e
  · rcases lastH_mem l with rfl | ⟨y, hy, e⟩
    · simp [lastH] at h; omega
    · have := (h3 y hy).1; omega
theorem rgt_prefix (l : List En) (k : Nat) (h : ¬ Rgt (l.take k)) : ¬ Rgt l := by
  rintro ⟨h1, h2⟩
  exact h ⟨fun x hx => h1 x (List.mem_of_mem_take hx), h2.sublist (List.take_sublist _ _)⟩
/-- without one of them -/
theorem rgt_less (l : List En) (k : Nat) (h : Rgt l) : Rgt (l.take k ++ l.drop (k + 1)) := by
  have hs : (l.take k ++ l.drop (k + 1)).Sublist l := by
    have := (List.Sublist.refl (l.take k)).append (List.drop_sublist_drop_left l (show k ≤ k + 1 by omega))
    rwa [List.take_append_drop] at this
  exact ⟨fun x hx => h.1 x (hs.subset hx), h.2.sublist hs⟩
/-- with one of them twice -/
theorem rgt_more (l : List En) (x y : En) (hx : x ∈ l) (he : y.t = x.t) : ¬ Rgt (l ++ [y]) := fun h => ((rgt_snoc l y).1 h).2.2 x hx |>.2 he.symm
end Go.Proofs.YtoeooabaofpngaaDoor
