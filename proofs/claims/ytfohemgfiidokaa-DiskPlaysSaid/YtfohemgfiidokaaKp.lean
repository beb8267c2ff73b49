/- DiskKeeps' plain law: what a file holds while texts are written, synced and written behind. -/
import Derived.Test.YtfohemgfiidokaaDv
import Derived.Test.YtfohemgfiidokaaFr
namespace Go.Proofs.Ytfohemgfiidokaa
open Go.RowKit Go.Sort

def wrs (L : List (List Int)) : List Chg := L.map .wr
theorem keptF_wrs : ∀ (L : List (List Int)) (b : List Int) (u : Int), keptF b u (wrs L) = b ++ L.flatten.take u.toNat
  | [], b, u => by simp [wrs, keptF]
  | c :: t, b, u => by
    show (if u ≤ 0 then b else keptF ((Chg.wr c).done b u) (u - c.length) (wrs t)) = _
    by_cases hu : u ≤ 0
    · rw [if_pos hu, show u.toNat = 0 by omega]; simp
    · rw [if_neg hu, keptF_wrs t, List.flatten_cons, List.take_append]
      show (b ++ c.take u.toNat) ++ _ = _
      rw [List.append_assoc]
      congr 3
      omega
theorem sizes_wrs : ∀ L : List (List Int), sizes (wrs L) = L.flatten.length
  | [] => rfl
  | c :: t => by show c.length + sizes (wrs t) = _; rw [sizes_wrs t]; simp
theorem stands_wrs (s : List Int) (L : List (List Int)) (h : L.flatten.length ≤ 9223372036854775807) : Fil.stands ⟨s, wrs L⟩ = s ++ L.flatten := by
  unfold Fil.stands standsF
  rw [keptF_wrs, List.take_of_length_le (by omega)]
theorem wrs_snoc (L : List (List Int)) (b : List Int) : wrs L ++ [.wr b] = wrs (L ++ [b]) := by simp [wrs]

/-- a disk of 2^14 bytes, on, without a fuse -/
def kd (F0 F1 : Fil) (q : Int) : Dk := ⟨F0, F1, 16384, false, false, q⟩
def wq (q : Int) : Int := IntKind.i64.wrap (q - 1)
theorem kd_ok {F0 F1 : Fil} {q : Int} (h0 : Small F0) (h1 : Small F1) : DOk (kd F0 F1 q) := ⟨h0, h1, by show (0 : Int) ≤ 16384; omega, by show (16384 : Int) ≤ 4194304; omega⟩
def put2 (f : Nat) (F G : Fil) (q : Int) : Dk := if f = 0 then kd F G q else kd G F q
theorem put2_ok {f : Nat} {F G : Fil} {q : Int} (h0 : Small F) (h1 : Small G) : DOk (put2 f F G q) := by
  unfold put2
  split
  · exact kd_ok h0 h1
  · exact kd_ok h1 h0
theorem kd_goes (F0 F1 : Fil) (q : Int) (g : Dk → Dk) : (kd F0 F1 q).goes g = (0, g (kd F0 F1 (wq q))) := by
  unfold Dk.goes
  rw [if_neg (by intro e; cases e.1)]
  rfl
theorem put2_write {f : Nat} (hf : f < 2) (F G : Fil) (q : Int) (b : List Int) (hr : (F.stands.length + G.stands.length + b.length : Nat) ≤ 16384) : (put2 f F G q).write f b = (0, put2 f ⟨F.s, F.l ++ [.wr b]⟩ G (wq q)) := by
  have hm : mayv (put2 f F G q).off f = 0 := by
    have : (put2 f F G q).off = false := by unfold put2; split <;> rfl
    rw [this]; unfold mayv; rw [if_neg (by simp), if_neg (by omega)]
  unfold Dk.write
  rw [if_neg (by rw [hm]; simp)]
  rcases f with _ | _ | f
  · have : ¬ roomF (kd F G q) < b.length := by show ¬ max 0 (16384 - (F.stands.length : Int) - G.stands.length) < (b.length : Int); omega
    show (if roomF (kd F G q) < b.length then _ else (kd F G q).goes _) = _
    rw [if_neg this, kd_goes]; rfl
  · have : ¬ roomF (kd G F q) < b.length := by show ¬ max 0 (16384 - (G.stands.length : Int) - F.stands.length) < (b.length : Int); omega
    show (if roomF (kd G F q) < b.length then _ else (kd G F q).goes _) = _
    rw [if_neg this, kd_goes]; rfl
  · omega
theorem put2_sync {f : Nat} (hf : f < 2) (F G : Fil) (q : Int) : (put2 f F G q).sync f = (0, put2 f ⟨F.stands, []⟩ G (wq q)) := by
  have hm : mayv (put2 f F G q).off f = 0 := by
    have : (put2 f F G q).off = false := by unfold put2; split <;> rfl
    rw [this]; unfold mayv; rw [if_neg (by simp), if_neg (by omega)]
  unfold Dk.sync
  rw [if_neg (by rw [hm]; simp)]
  rcases f with _ | _ | f
  · show (kd F G q).goes _ = _
    rw [kd_goes]; rfl
  · show (kd G F q).goes _ = _
    rw [kd_goes]; rfl
  · omega

/-- a file in which i of the texts S, L are written -/
def fileAt (S L : List (List Int)) (i : Nat) : Fil := if i ≤ S.length then ⟨[], wrs (S.take i)⟩ else ⟨S.flatten, wrs (L.take (i - S.length))⟩
/-- a file when all is written, and synced -/
def fileEnd (S L : List (List Int)) : Fil := ⟨S.flatten, wrs L⟩
def sAt (S : List (List Int)) (i : Nat) : List Int := (S.take i).flatten
def tAt (S L : List (List Int)) (i : Nat) : List Int := (L.take (i - S.length)).flatten
theorem stands_at_i (S L : List (List Int)) (i : Nat) (h : (sAt S i).length + (tAt S L i).length ≤ 16384) : (fileAt S L i).stands = sAt S i ++ tAt S L i := by
  unfold fileAt
  split
  · rename_i hi
    rw [stands_wrs _ _ (by unfold sAt at h; omega)]
    unfold tAt sAt
    rw [show i - S.length = 0 by omega]; simp
  · rename_i hi
    rw [stands_wrs _ _ (by unfold tAt at h; omega)]
    unfold tAt sAt
    rw [List.take_of_length_le (l := S) (by omega)]
theorem small_at (S L : List (List Int)) (i : Nat) (h : (sAt S i).length + (tAt S L i).length ≤ 16384) (hl : S.length + L.length ≤ 60) : Small (fileAt S L i) := by
  unfold fileAt
  split
  · refine ⟨?_, ?_⟩
    · show ([] : List Int).length + sizes (wrs (S.take i)) ≤ _
      rw [sizes_wrs]; unfold sAt at h; simp only [List.length_nil]; omega
    · show (wrs (S.take i)).length ≤ _
      simp only [wrs, List.length_map, List.length_take]; omega
  · refine ⟨?_, ?_⟩
    · show S.flatten.length + sizes (wrs (L.take (i - S.length))) ≤ _
      rw [sizes_wrs]; unfold sAt at h; unfold tAt at h
      rw [List.take_of_length_le (l := S) (by omega)] at h
      omega
    · show (wrs (L.take (i - S.length))).length ≤ _
      simp only [wrs, List.length_map, List.length_take]; omega
theorem flat_snoc (S : List (List Int)) (i : Nat) (h : i < S.length) : (S.take (i + 1)).flatten = (S.take i).flatten ++ S[i] := by
  rw [List.take_succ_eq_append_getElem h, List.flatten_append]
  simp only [List.flatten_cons, List.flatten_nil, List.append_nil]
/-- a text of the first ones is written -/
theorem at_sure (S L : List (List Int)) (i : Nat) (h : i < S.length) : (⟨(fileAt S L i).s, (fileAt S L i).l ++ [.wr S[i]]⟩ : Fil) = fileAt S L (i + 1) ∧ sAt S (i + 1) = sAt S i ++ S[i] ∧ tAt S L (i + 1) = tAt S L i ∧ tAt S L i = [] := by
  unfold fileAt sAt tAt
  rw [if_pos (by omega), if_pos (by omega), show i - S.length = 0 by omega, show i + 1 - S.length = 0 by omega]
  refine ⟨?_, flat_snoc S i h, rfl, by simp⟩
  show (⟨[], wrs (S.take i) ++ [.wr S[i]]⟩ : Fil) = _
  rw [wrs_snoc, List.take_succ_eq_append_getElem h]
/-- a text of the second ones -/
theorem at_loose (S L : List (List Int)) (i : Nat) (h1 : S.length < i) (h : i - S.length < L.length) : (⟨(fileAt S L i).s, (fileAt S L i).l ++ [.wr L[i - S.length]]⟩ : Fil) = fileAt S L (i + 1) ∧ sAt S (i + 1) = sAt S i ∧ tAt S L (i + 1) = tAt S L i ++ L[i - S.length] := by
  unfold fileAt sAt tAt
  rw [if_neg (by omega), if_neg (by omega), show i + 1 - S.length = i - S.length + 1 by omega]
  refine ⟨?_, by rw [List.take_of_length_le (l := S) (by omega), List.take_of_length_le (l := S) (by omega)], flat_snoc L _ h⟩
  show (⟨S.flatten, wrs (L.take (i - S.length)) ++ [.wr L[i - S.length]]⟩ : Fil) = _
  rw [wrs_snoc, List.take_succ_eq_append_getElem h]
/-- the first of the second ones, behind a sync -/
theorem at_turn (S L : List (List Int)) (h : 0 < L.length) (hs : (sAt S S.length).length + (tAt S L S.length).length ≤ 16384) : (⟨(fileAt S L S.length).stands, [.wr (L[0]'h)]⟩ : Fil) = fileAt S L (S.length + 1) ∧ sAt S (S.length + 1) = sAt S S.length ∧ tAt S L (S.length + 1) = tAt S L S.length ++ L[0]'h := by
  rw [stands_at_i S L _ hs]
  unfold fileAt sAt tAt
  rw [if_neg (by omega), Nat.sub_self, show S.length + 1 - S.length = 0 + 1 by omega]
  refine ⟨?_, by rw [List.take_of_length_le (l := S) (by omega), List.take_of_length_le (l := S) (by omega)], flat_snoc L 0 h⟩
  rw [List.take_succ_eq_append_getElem h, List.take_length]
  simp [wrs]
theorem at_end (S L : List (List Int)) (h : 0 < L.length) : fileAt S L (S.length + L.length) = fileEnd S L ∧ sAt S (S.length + L.length) = S.flatten ∧ tAt S L (S.length + L.length) = L.flatten := by
  unfold fileAt sAt tAt fileEnd
  rw [if_neg (by omega), show S.length + L.length - S.length = L.length by omega, List.take_length, List.take_of_length_le (l := S) (by omega)]
  exact ⟨rfl, rfl, rfl⟩
theorem at_end0 (S : List (List Int)) (h : (sAt S S.length).length ≤ 16384) : (⟨(fileAt S [] S.length).stands, []⟩ : Fil) = fileEnd S [] ∧ sAt S S.length = S.flatten ∧ tAt S [] S.length = [] := by
  rw [stands_at_i S [] _ (by simpa [tAt] using h)]
  unfold sAt tAt fileEnd
  simp [wrs]
theorem at_loose' (S L : List (List Int)) (i k : Nat) (hik : i = S.length + k) (h1 : 0 < k) (h : k < L.length) : (⟨(fileAt S L i).s, (fileAt S L i).l ++ [.wr L[k]]⟩ : Fil) = fileAt S L (i + 1) ∧ sAt S (i + 1) = sAt S i ∧ tAt S L (i + 1) = tAt S L i ++ L[k] := by
  subst hik
  have := at_loose S L (S.length + k) (by omega) (by omega)
  have e : S.length + k - S.length = k := by omega
  simp only [e] at this
  exact this
theorem at_turn' (S L : List (List Int)) (i k : Nat) (hi : i = S.length + k) (hk : k = 0) (h : k < L.length) (hs : (sAt S i).length + (tAt S L i).length ≤ 16384) : (⟨(fileAt S L i).stands, [.wr (L[k]'h)]⟩ : Fil) = fileAt S L (i + 1) ∧ sAt S (i + 1) = sAt S i ∧ tAt S L (i + 1) = tAt S L i ++ L[k]'h := by
  subst hk
  subst hi
  exact at_turn S L h hs
theorem stands_nil (x : List Int) : Fil.stands ⟨x, []⟩ = x := rfl
theorem at_out (S L : List (List Int)) (i : Nat) (hi : i = S.length + L.length) (h : 0 < L.length) : fileAt S L i = fileEnd S L ∧ sAt S i = S.flatten ∧ tAt S L i = L.flatten := by
  subst hi
  exact at_end S L h
theorem at_out0 (S L : List (List Int)) (i : Nat) (hi : i = S.length + L.length) (h : L = []) (hl : (sAt S i).length ≤ 16384) : (⟨(fileAt S L i).stands, []⟩ : Fil) = fileEnd S L ∧ sAt S i = S.flatten ∧ tAt S L i = L.flatten := by
  subst h
  have : i = S.length := by simpa using hi
  subst this
  exact at_end0 S hl
end Go.Proofs.Ytfohemgfiidokaa
