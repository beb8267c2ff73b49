/- The walk of DiskKeeps. -/
import Derived.Test.YtfohemgfiidokaaKp
import Derived.Deep.QuietTactic
import Derived.BigQuiet
import Derived.StillTailTactics
import Derived.Deep.Cut
import Derived.Laws.Concat
namespace Go.Proofs.Ytfohemgfiidokaa.diskKeeps
open Go.RowKit Go.Sort

/-- a slice of slices of bytes -/
def BB (w : World) (v : Value) (Ls : List (List Int)) : Prop :=
  (v = .slice none 0 0 ∧ Ls = []) ∨ ∃ a g o cap, v = .slice (some a) Ls.length cap ∧ (0 < Ls.length → a = ⟨g, o, none⟩) ∧ ∀ j (h : j < Ls.length), ∃ u, w.cell? ⟨g, o + j, none⟩ = some u ∧ RdB w u Ls[j]
theorem BB.shape {w : World} {v : Value} {Ls : List (List Int)} (h : BB w v Ls) : ∃ p cap, v = .slice p Ls.length cap ∧ ∀ j (hj : j < Ls.length), ∃ g o u, p = some ⟨g, o, none⟩ ∧ w.cell? ⟨g, o + j, none⟩ = some u ∧ RdB w u Ls[j] := by
  rcases h with ⟨h1, h2⟩ | ⟨a, g, o, cap, h1, h2, h3⟩
  · exact ⟨none, 0, by rw [h1, h2]; rfl, fun j hj => by rw [h2] at hj; simp at hj⟩
  · exact ⟨some a, cap, h1, fun j hj => by obtain ⟨u, h4, h5⟩ := h3 j hj; exact ⟨g, o, u, by rw [h2 (by omega)], h4, h5⟩⟩
theorem rdb_rdm {w W : World} {v : Value} {xs : List Int} (h : RdB w v xs) (hb : Below w.heap.size w W) (lo hi : Nat) (hlo : w.heap.size ≤ lo) : RdM lo hi W v xs := by
  rcases h with h | ⟨a, g, o, cap, h1, h2, h3, h4⟩
  · exact .inl h
  · exact .inr ⟨a, g, o, cap, h1, h2, fun hl => ⟨h3 hl, .inl (Nat.lt_of_lt_of_le (block_lt_of_cell (h4 0 hl)) hlo)⟩, fun j hj => by rw [hb.cell (block_lt_of_cell (h4 j hj))]; exact h4 j hj⟩
/-- a variable of two strings -/
def VarS (w : World) (S : Nat) (sv : Nat → List Int) : Prop := (∀ j, j < 2 → w.cell? ⟨S, j, none⟩ = some (.string (strOfNums (sv j)))) ∧ ∀ j, w.frozen? ⟨S, j, none⟩ = false
theorem VarS.keep {w w' : World} {S : Nat} {sv : Nat → List Int} (h : VarS w S sv) (hk : w'.heap[S]? = w.heap[S]?) : VarS w' S sv :=
  ⟨fun j hj => (World.cell?_of_block hk).trans (h.1 j hj), fun j => (World.frozen?_of_block hk).trans (h.2 j)⟩
def upd (f : Nat → List Int) (F : Nat) (x : List Int) : Nat → List Int := fun j => if j = F then x else f j
theorem VarS.set {w : World} {S F : Nat} {sv : Nat → List Int} {x : List Int} (h : VarS w S sv) (hF : F < 2) : VarS (w.setCell ⟨S, F, none⟩ (.string (strOfNums x))) S (upd sv F x) := by
  refine ⟨fun j hj => ?_, fun j => set_frozen.trans (h.2 j)⟩
  unfold upd
  by_cases e : j = F
  · subst e; rw [if_pos rfl]; exact set_same (h.1 j hj)
  · rw [if_neg e, set_cell e]; exact h.1 j hj
theorem str_app (a b : List Int) : strOfNums a ++ strOfNums b = strOfNums (a ++ b) := by
  simp [strOfNums, ByteArray.ext_iff]

/-- a text behind a file's ones -/
theorem first_new (w1 : World) : Calls Try.prog 10 #[.int .i64 16384] w1 fun e w' => e = .returned (.tuple #[.pointer (some ⟨w1.heap.size, 0, none⟩), .int .i64 0]) ∧ NowV w1 [] w1.heap.size (kd ⟨[], wrs []⟩ ⟨[], wrs []⟩ 0) w' :=
  (now_new 16384 w1 (by omega) (by omega)).mono fun _ _ ⟨he, h⟩ => ⟨he, h.v⟩


/-- what came in: two times two slices of texts, in boxes at b and b + 1 -/
structure Inp (w w1 : World) (b : Nat) (SS LL : Nat → List (List Int)) (pS pL : Nat → Option Addr) (cS cL : Nat → Nat) : Prop where
  bS : ∀ W, Below w1.heap.size w1 W → ∀ F, F < 2 → W.cell? ⟨b, F, none⟩ = some (.slice (pS F) (SS F).length (cS F))
  bL : ∀ W, Below w1.heap.size w1 W → ∀ F, F < 2 → W.cell? ⟨b + 1, F, none⟩ = some (.slice (pL F) (LL F).length (cL F))
  lS : ∀ F, F < 2 → ∀ j (h : j < (SS F).length), (SS F)[j].length ≤ 1000000000000000
  lL : ∀ F, F < 2 → ∀ j (h : j < (LL F).length), (LL F)[j].length ≤ 1000000000000000
  eS : ∀ W, Below w1.heap.size w1 W → ∀ F, F < 2 → ∀ j (h : j < (SS F).length), ∃ g o u, pS F = some ⟨g, o, none⟩ ∧ W.cell? ⟨g, o + j, none⟩ = some u ∧ RdB w u (SS F)[j]
  eL : ∀ W, Below w1.heap.size w1 W → ∀ F, F < 2 → ∀ j (h : j < (LL F).length), ∃ g o u, pL F = some ⟨g, o, none⟩ ∧ W.cell? ⟨g, o + j, none⟩ = some u ∧ RdB w u (LL F)[j]
def two {α : Type} (a b : α) : Nat → α := fun F => if F = 0 then a else b
def oth (SS LL : Nat → List (List Int)) (F : Nat) : Fil := if F = 0 then ⟨[], wrs []⟩ else fileEnd (SS 0) (LL 0)
def kst (SS LL : Nat → List (List Int)) (q : Int) : Nat → Dk
  | 0 => kd ⟨[], wrs []⟩ ⟨[], wrs []⟩ q
  | 1 => kd (fileEnd (SS 0) (LL 0)) ⟨[], wrs []⟩ q
  | _ => kd (fileEnd (SS 0) (LL 0)) (fileEnd (SS 1) (LL 1)) q
theorem kst_start (SS LL : Nat → List (List Int)) (q : Int) (F : Nat) (hF : F < 2) : kst SS LL q F = put2 F (fileAt (SS F) (LL F) 0) (oth SS LL F) q := by
  have e : ∀ S L : List (List Int), fileAt S L 0 = ⟨[], wrs []⟩ := fun S L => by unfold fileAt; rw [if_pos (by omega)]; rfl
  rw [e]
  rcases F with _ | _ | F
  · rfl
  · rfl
  · omega
theorem kst_end (SS LL : Nat → List (List Int)) (q : Int) (F : Nat) (hF : F < 2) : put2 F (fileEnd (SS F) (LL F)) (oth SS LL F) q = kst SS LL q (F + 1) := by
  rcases F with _ | _ | F
  · rfl
  · rfl
  · omega
def fst (X : Nat → List (List Int)) (F : Nat) : Nat → List Int := fun j => if j < F then (X j).flatten else []
def total (SS LL : Nat → List (List Int)) : Nat → Nat
  | 0 => 0
  | F + 1 => total SS LL F + (SS F).flatten.length + (LL F).flatten.length
/-- picks that came in -/
def PkIn (w : World) (p : Option Addr) (len : Nat) (pk : Nat → Int) : Prop :=
  (∀ i, i < len → ∃ g o, p = some ⟨g, o, none⟩ ∧ w.cell? ⟨g, o + i, none⟩ = some (.int .i64 (pk i))) ∧ (∀ i, len ≤ i → pk i = 0) ∧ (∀ i, -9223372036854775808 ≤ pk i) ∧ (∀ i, pk i ≤ 9223372036854775807)
theorem PkIn.pkm {w W : World} {p : Option Addr} {len : Nat} {pk : Nat → Int} (h : PkIn w p len pk) (hb : Below w.heap.size w W) (lo hi : Nat) (hlo : w.heap.size ≤ lo) : PkM lo hi W p len pk :=
  ⟨fun i _ hl => by obtain ⟨g, o, h1, h2⟩ := h.1 i hl; exact ⟨g, o, h1, by rw [hb.cell (block_lt_of_cell h2)]; exact h2, .inl (Nat.lt_of_lt_of_le (block_lt_of_cell h2) hlo)⟩, fun i _ hl => h.2.1 i hl, fun i _ => h.2.2.1 i, fun i _ => h.2.2.2 i⟩
/-- the disk behind On -/
def eFil (SS LL : Nat → List (List Int)) (pk : Nat → Int) (f : Nat) : Fil := ⟨(SS f).flatten ++ (LL f).flatten.take (pk f).toNat, []⟩
theorem kst_room (SS LL : Nat → List (List Int)) (q : Int) (h : total SS LL 2 ≤ 16384) : roomF (kst SS LL q 2) = 16384 - ((total SS LL 2 : Nat) : Int) := by
  have h' : 0 + (SS 0).flatten.length + (LL 0).flatten.length + (SS 1).flatten.length + (LL 1).flatten.length ≤ 16384 := h
  show max 0 (16384 - ((Fil.stands ⟨(SS 0).flatten, wrs (LL 0)⟩).length : Int) - (Fil.stands ⟨(SS 1).flatten, wrs (LL 1)⟩).length) = 16384 - ((0 + (SS 0).flatten.length + (LL 0).flatten.length + (SS 1).flatten.length + (LL 1).flatten.length : Nat) : Int)
  rw [stands_wrs _ _ (by omega), stands_wrs _ _ (by omega), List.length_append, List.length_append]
  omega
theorem kst_ok (SS LL : Nat → List (List Int)) (q : Int) (h : total SS LL 2 ≤ 16384) (h6 : ∀ j, j < 2 → (SS j).length + (LL j).length ≤ 60) : DOk (kst SS LL q 2) := by
  have h' : 0 + (SS 0).flatten.length + (LL 0).flatten.length + (SS 1).flatten.length + (LL 1).flatten.length ≤ 16384 := h
  have h0 := h6 0 (by omega)
  have h1 := h6 1 (by omega)
  refine kd_ok ⟨?_, ?_⟩ ⟨?_, ?_⟩
  · show (SS 0).flatten.length + sizes (wrs (LL 0)) ≤ 500000000
    rw [sizes_wrs]; omega
  · show (wrs (LL 0)).length ≤ _
    simp only [wrs, List.length_map]; omega
  · show (SS 1).flatten.length + sizes (wrs (LL 1)) ≤ 500000000
    rw [sizes_wrs]; omega
  · show (wrs (LL 1)).length ≤ _
    simp only [wrs, List.length_map]; omega
theorem kst_off (SS LL : Nat → List (List Int)) (q : Int) : (kst SS LL q 2).offc = (0, { kst SS LL q 2 with off := true }) := rfl
theorem kst_on (SS LL : Nat → List (List Int)) (q : Int) (pk : Nat → Int) : ({ kst SS LL q 2 with off := true } : Dk).onc pk = (0, kd (eFil SS LL pk 0) (eFil SS LL pk 1) q) := by
  unfold Dk.onc
  rw [if_pos rfl]
  show (0, (⟨⟨keptF (SS 0).flatten (pk 0) (wrs (LL 0)), []⟩, ⟨keptF (SS 1).flatten (pk 1) (wrs (LL 1)), []⟩, 16384, false, false, q⟩ : Dk)) = _
  rw [keptF_wrs, keptF_wrs]
  rfl
theorem e_ok (SS LL : Nat → List (List Int)) (pk : Nat → Int) (q : Int) (h : total SS LL 2 ≤ 16384) : DOk (kd (eFil SS LL pk 0) (eFil SS LL pk 1) q) := by
  have h' : 0 + (SS 0).flatten.length + (LL 0).flatten.length + (SS 1).flatten.length + (LL 1).flatten.length ≤ 16384 := h
  refine kd_ok ⟨?_, ?_⟩ ⟨?_, ?_⟩
  · show ((SS 0).flatten ++ (LL 0).flatten.take (pk 0).toNat).length + sizes [] ≤ 500000000
    rw [List.length_append, List.length_take]; simp only [sizes]; omega
  · show ([] : List Chg).length ≤ _; simp
  · show ((SS 1).flatten ++ (LL 1).flatten.take (pk 1).toNat).length + sizes [] ≤ 500000000
    rw [List.length_append, List.length_take]; simp only [sizes]; omega
  · show ([] : List Chg).length ≤ _; simp
theorem e_file (SS LL : Nat → List (List Int)) (pk : Nat → Int) (q : Int) (f : Nat) (hf : f < 2) : ((kd (eFil SS LL pk 0) (eFil SS LL pk 1) q).file f).stands = (SS f).flatten ++ (LL f).flatten.take (pk f).toNat := by
  rcases f with _ | _ | f
  · rfl
  · rfl
  · omega
theorem str_cut (B : List Int) (k : Nat) : (strOfNums B).extract 0 k = strOfNums (B.take k) := by
  simp [strOfNums, ByteArray.ext_iff]
theorem tot_le (SS LL : Nat → List (List Int)) (h : total SS LL 2 ≤ 16384) (f : Nat) (hf : f < 2) : (SS f).flatten.length + (LL f).flatten.length ≤ 16384 := by
  have h' : 0 + (SS 0).flatten.length + (LL 0).flatten.length + (SS 1).flatten.length + (LL 1).flatten.length ≤ 16384 := h
  rcases f with _ | _ | f
  · omega
  · show (SS 1).flatten.length + (LL 1).flatten.length ≤ 16384
    omega
  · omega
theorem upd_next (X : Nat → List (List Int)) (F : Nat) : upd (fst X F) F (X F).flatten = fst X (F + 1) := by
  funext j
  unfold upd fst
  by_cases e : j = F
  · subst e; rw [if_pos rfl, if_pos (by omega)]
  · rw [if_neg e]
    by_cases h : j < F
    · rw [if_pos h, if_pos (by omega)]
    · rw [if_neg h, if_neg (by omega)]
theorem oth_stands (SS LL : Nat → List (List Int)) (F : Nat) (hF : F < 2) (h : total SS LL F ≤ 16384) : (oth SS LL F).stands.length = total SS LL F := by
  rcases F with _ | _ | F
  · show (Fil.stands ⟨[], wrs []⟩).length = 0
    rw [stands_wrs _ _ (by simp)]; rfl
  · have h' : 0 + (SS 0).flatten.length + (LL 0).flatten.length ≤ 16384 := h
    show (Fil.stands ⟨(SS 0).flatten, wrs (LL 0)⟩).length = 0 + (SS 0).flatten.length + (LL 0).flatten.length
    rw [stands_wrs _ _ (by omega)]; simp
  · omega
theorem oth_small (SS LL : Nat → List (List Int)) (F : Nat) (hF : F < 2) (h : total SS LL F ≤ 16384) (h6 : ∀ j, j < F → (SS j).length + (LL j).length ≤ 60) : Small (oth SS LL F) := by
  rcases F with _ | _ | F
  · show Small ⟨[], wrs []⟩
    exact ⟨by decide +kernel, by decide +kernel⟩
  · have h' : 0 + (SS 0).flatten.length + (LL 0).flatten.length ≤ 16384 := h
    have h7 := h6 0 (by omega)
    refine ⟨?_, ?_⟩
    · show (SS 0).flatten.length + sizes (wrs (LL 0)) ≤ 500000000
      rw [sizes_wrs]; omega
    · show (wrs (LL 0)).length ≤ _
      simp only [wrs, List.length_map]; omega
  · omega
theorem NowV.lt {w0 w : World} {A : List Nat} {D a : Nat} {d : Dk} (h : NowV w0 A D d w) (ha : a ∈ A) : a < w.heap.size := by
  obtain ⟨_, _, _, h4, _⟩ := h
  exact (h4 a ha).1
theorem upd_self (X : Nat → List (List Int)) (F : Nat) : upd (fst X F) F [] = fst X F := by
  funext j
  unfold upd fst
  by_cases e : j = F
  · subst e; simp
  · rw [if_neg e]
theorem below_low {w1 w2 : World} {n : Nat} (h : Below w1.heap.size w1 w2) (_ : w1.heap.size = n) : Below w1.heap.size w1 w2 := h
theorem rd_text {w : World} {v : Value} {xs : List Int} (h : RdB w v xs) : (convert 33 9 v).run Try.prog w = .ok (.string (strOfNums xs)) w := by
  rcases h with ⟨h1, h2⟩ | ⟨a, g, o, cap, h1, h2, h3, h4⟩
  · subst h2
    rw [h1]
    exact run_convert_bytes_nil w 33 5 Try.underlying33 Try.underlying5 0 0 9 Try.underlying9
  · rw [h1]
    by_cases h0 : 0 < xs.length
    · rw [h3 h0]
      exact run_convert_bytes_arg w 33 5 Try.underlying33 Try.underlying5 g o xs.length cap xs rfl (fun i hi => by rw [h4 i hi]; simp) 9 Try.underlying9
    · obtain ⟨g2, o2, sp⟩ := a
      have hx : xs = [] := List.length_eq_zero_iff.1 (by omega)
      subst hx
      rcases sp with _ | sp
      · exact run_convert_bytes_arg w 33 5 Try.underlying33 Try.underlying5 g2 o2 0 cap [] rfl (fun i hi => by omega) 9 Try.underlying9
      · rw [run_convert_bytes_string w 33 9 5 _ _ _ Try.underlying33 Try.underlying5 Try.underlying9]
        simp [Conv.bytesToString, loadCells, strOfNums]
        rfl
theorem str_add (A B : List Int) (h : A.length + B.length ≤ 9223372036854775807) (w : World) : (Op.stringOp .add (strOfNums A) (strOfNums B)).run Try.prog w = .ok (.string (strOfNums (A ++ B))) w := by
  rw [run_string_add_if, if_neg (by rw [strOfNums_size, strOfNums_size]; omega), str_app]
theorem str_add0 (A : List Int) (h : A.length ≤ 9223372036854775807) (w : World) : (Op.stringOp .add (strOfNums A) ByteArray.empty).run Try.prog w = .ok (.string (strOfNums A)) w := by
  have := str_add A [] (by simpa using h) w
  rw [List.append_nil] at this
  exact this
theorem upd_upd (f : Nat → List Int) (F : Nat) (x y : List Int) : upd (upd f F x) F y = upd f F y := by
  funext j
  unfold upd
  by_cases e : j = F
  · rw [if_pos e, if_pos e]
  · rw [if_neg e, if_neg e, if_neg e]

set_option maxRecDepth 100000 in
set_option maxHeartbeats 1600000 in
theorem walk (sv0 sv1 lv0 lv1 pv : Value) (S0 S1 L0 L1 : List (List Int)) (pk : Nat → Int) (w : World) (hs0 : BB w sv0 S0) (hs1 : BB w sv1 S1) (hl0 : BB w lv0 L0) (hl1 : BB w lv1 L1)
    (z0 : S0.length + L0.length ≤ 1000000000000000) (z1 : S1.length + L1.length ≤ 1000000000000000) (zl : ∀ x ∈ S0 ++ S1 ++ L0 ++ L1, x.length ≤ 1000000000000000) (pp : Option Addr) (plen pcap : Nat) (hp : pv = .slice pp plen pcap)
    (hpk : PkIn w pp plen pk) :
    Calls Try.prog 4 #[.agg #[sv0, sv1], .agg #[lv0, lv1], pv] w fun e w' => e = .returned (.bool true) ∧ Below w.heap.size w w' := by
  subst hp
  obtain ⟨ps0, cs0, rfl, hes0⟩ := hs0.shape
  obtain ⟨ps1, cs1, rfl, hes1⟩ := hs1.shape
  obtain ⟨pl0, cl0, rfl, hel0⟩ := hl0.shape
  obtain ⟨pl1, cl1, rfl, hel1⟩ := hl1.shape
  have HE := Lib.hid (And.intro hes0 (And.intro hes1 (And.intro hel0 hel1)))
  clear hs0 hs1 hl0 hl1 hes0 hes1 hel0 hel1
  go_enter Try.func4, Try.ntmps4
  go_wp2_with fail
  refine (first_new _).mono ?_
  rintro e w2 ⟨rfl, hn⟩
  have hD : ((w.alloc (.cells #[.slice ps0 S0.length cs0, .slice ps1 S1.length cs1] 40)).alloc (.cells #[.slice pl0 L0.length cl0, .slice pl1 L1.length cl1] 40)).heap.size = w.heap.size + 1 + 1 := by simp
  obtain ⟨w1, hb1, hsz1, hinp, hn⟩ : ∃ w1, Below w.heap.size w w1 ∧ w1.heap.size = w.heap.size + 1 + 1 ∧ Inp w w1 w.heap.size (two S0 S1) (two L0 L1) (two ps0 ps1) (two pl0 pl1) (two cs0 cs1) (two cl0 cl1) ∧ NowV w1 [] (w.heap.size + 1 + 1) (kst (two S0 S1) (two L0 L1) 0 0) w2 := by
    refine ⟨_, bel_alloc (bel_alloc (Below.refl _ _) _) _, hD, ?_, by rw [hD] at hn; exact hn⟩
    have key : ∀ W, Below ((w.alloc (.cells #[.slice ps0 S0.length cs0, .slice ps1 S1.length cs1] 40)).alloc (.cells #[.slice pl0 L0.length cl0, .slice pl1 L1.length cl1] 40)).heap.size ((w.alloc (.cells #[.slice ps0 S0.length cs0, .slice ps1 S1.length cs1] 40)).alloc (.cells #[.slice pl0 L0.length cl0, .slice pl1 L1.length cl1] 40)) W → Below w.heap.size w W := fun W hW => bel_call (bel_alloc (bel_alloc (Below.refl _ w) _) _) hW
    refine ⟨fun W hW F hF => ?_, fun W hW F hF => ?_, fun F hF j hj => ?_, fun F hF j hj => ?_, fun W hW F hF j hj => ?_, fun W hW F hF j hj => ?_⟩
    · rw [hW.cell (by rw [hD]; simp; omega)]
      rcases F with _ | _ | F
      · simp [go_sem, two]
      · simp [go_sem, two]
      · omega
    · rw [hW.cell (by rw [hD]; simp)]
      rcases F with _ | _ | F
      · simp [go_sem, two]
      · simp [go_sem, two]
      · omega
    · rcases F with _ | _ | F
      · exact zl _ (List.mem_append_left _ (List.mem_append_left _ (List.mem_append_left _ (List.getElem_mem hj))))
      · exact zl _ (List.mem_append_left _ (List.mem_append_left _ (List.mem_append_right _ (List.getElem_mem hj))))
      · omega
    · rcases F with _ | _ | F
      · exact zl _ (List.mem_append_left _ (List.mem_append_right _ (List.getElem_mem hj)))
      · exact zl _ (List.mem_append_right _ (List.getElem_mem hj))
      · omega
    · rcases F with _ | _ | F
      · obtain ⟨g, o, u, h1, h2, h3⟩ := HE.out.1 j hj
        exact ⟨g, o, u, h1, by rw [(key W hW).cell (block_lt_of_cell h2)]; exact h2, h3⟩
      · obtain ⟨g, o, u, h1, h2, h3⟩ := HE.out.2.1 j hj
        exact ⟨g, o, u, h1, by rw [(key W hW).cell (block_lt_of_cell h2)]; exact h2, h3⟩
      · omega
    · rcases F with _ | _ | F
      · obtain ⟨g, o, u, h1, h2, h3⟩ := HE.out.2.2.1 j hj
        exact ⟨g, o, u, h1, by rw [(key W hW).cell (block_lt_of_cell h2)]; exact h2, h3⟩
      · obtain ⟨g, o, u, h1, h2, h3⟩ := HE.out.2.2.2 j hj
        exact ⟨g, o, u, h1, by rw [(key W hW).cell (block_lt_of_cell h2)]; exact h2, h3⟩
      · omega
  have HI := Lib.hid hinp
  have zz : ∀ F, F < 2 → (two S0 S1 F).length + (two L0 L1 F).length ≤ 1000000000000000 := fun F hF => by
    rcases F with _ | _ | F
    · exact z0
    · exact z1
    · omega
  have HZ := Lib.hid zz
  have HW := Lib.hid (And.intro hb1 hsz1)
  clear hD HE hinp zz hb1 hsz1 z0 z1 zl
  generalize two S0 S1 = SS at *
  generalize two L0 L1 = LL at *
  generalize two ps0 ps1 = pS at *
  generalize two pl0 pl1 = pL at *
  generalize two cs0 cs1 = cS at *
  generalize two cl0 cl1 = cL at *
  go_wp2_with fail
  refine wp_gen (fun W => NowV w1 [w2.heap.size + 1, w2.heap.size] (w.heap.size + 1 + 1) (kst SS LL 0 0) W ∧ VarS W w2.heap.size (fst SS 0) ∧ VarS W (w2.heap.size + 1) (fst LL 0)) ⟨?_, ?_, ?_⟩ ?_
  · have := (hn.alloc (.cells #[.string ⟨#[]⟩, .string ⟨#[]⟩] 41)).alloc (.cells #[.string ⟨#[]⟩, .string ⟨#[]⟩] 41)
    simpa using this
  · refine ⟨fun j hj => ?_, fun j => by simp [go_sem]⟩
    rcases j with _ | _ | j
    · simp [go_sem]; rfl
    · simp [go_sem]; rfl
    · omega
  · refine ⟨fun j hj => ?_, fun j => by simp [go_sem]⟩
    rcases j with _ | _ | j
    · simp [go_sem]; rfl
    · simp [go_sem]; rfl
    · omega
  clear hn
  rintro W0 ⟨hn, hvs, hvt⟩
  generalize w2.heap.size = S at *
  go_loopw [9, 12] (fun nv fv wr => ∃ (F : Nat) (q : Int), F ≤ 2 ∧ fv = .int .i64 F ∧ nv = .int .i64 (total SS LL F : Nat) ∧ total SS LL F ≤ 16384 ∧ (∀ j, j < F → (SS j).length + (LL j).length ≤ 60) ∧ NowV w1 [S + 1, S] (w.heap.size + 1 + 1) (kst SS LL q F) wr ∧ VarS wr S (fst SS F) ∧ VarS wr (S + 1) (fst LL F)) (fun _ f _ => 2 - (intOf f).toNat)
  case atStart => exact ⟨0, 0, by omega, rfl, rfl, by simp [total], fun j hj => by omega, hn, hvs, hvt⟩
  case round =>
    clear hn hvs hvt
    obtain ⟨F, q, hF, rfl, rfl, htot, h60, hn, hvs, hvt⟩ := hrel
    have H60 := Lib.hid h60
    clear h60
    obtain ⟨wo, rfl⟩ : ∃ wo : World, wo = wr := ⟨_, rfl⟩
    by_cases hF2 : F < 2
    · have f0 : (0 : Int) ≤ F := by omega
      have f1 : (F : Int) < 2 := by omega
      have bs := HI.out.bS wo hn.below F hF2
      have bl := HI.out.bL wo hn.below F hF2
      have zf := HZ.out F hF2
      have g1 : IntKind.i64.wrap (((SS F).length : Int) + ((LL F).length : Int)) = ((SS F).length : Int) + ((LL F).length : Int) := by rw [IntKind.wrap_i64]; omega
      by_cases hl : 60 < (SS F).length + (LL F).length
      · have hl' : (60 : Int) < ((SS F).length : Int) + ((LL F).length : Int) := by omega
        go_wp2_with fail
        go_quiet (fail)
        go_wp2_with (go_at_call 9; refine (works_c _).mono ?_; rintro e w3 ⟨rfl, hb3⟩)
        go_ret
        exact ⟨rfl, bel_call (bel_call (bel_call HW.out.1 hn.below) (below_drewN wo nq)) hb3⟩
      · have hl' : ¬ (60 : Int) < ((SS F).length : Int) + ((LL F).length : Int) := by omega
        go_wp2_with fail
        go_quiet (fail)
        go_wp2_with fail
        refine wp_gen (fun W => NowV w1 [S + 1, S] (w.heap.size + 1 + 1) (kst SS LL q F) W ∧ VarS W S (fst SS F) ∧ VarS W (S + 1) (fst LL F)) ⟨hn.keep (below_drewN wo nq), hvs, hvt⟩ ?_
        clear bs bl hn hvs hvt
        rintro W1 ⟨hn, hvs, hvt⟩
        rw [kst_start SS LL q F hF2] at hn
        rw [← upd_self SS F] at hvs
        rw [← upd_self LL F] at hvt
        go_loopw [9, 13] (fun nv iv wi => ∃ (i : Nat) (q2 : Int), i ≤ (SS F).length + (LL F).length ∧ iv = .int .i64 i ∧ nv = .int .i64 (total SS LL F + (sAt (SS F) i).length + (tAt (SS F) (LL F) i).length : Nat) ∧ total SS LL F + (sAt (SS F) i).length + (tAt (SS F) (LL F) i).length ≤ 16384 ∧ NowV w1 [S + 1, S] (w.heap.size + 1 + 1) (put2 F (fileAt (SS F) (LL F) i) (oth SS LL F) q2) wi ∧ VarS wi S (upd (fst SS F) F (sAt (SS F) i)) ∧ VarS wi (S + 1) (upd (fst LL F) F (tAt (SS F) (LL F) i))) (fun _ i _ => (SS F).length + (LL F).length - (intOf i).toNat)
        case atStart => exact ⟨0, q, by omega, rfl, by simp [sAt, tAt], by simpa [sAt, tAt] using htot, hn, by simpa [sAt] using hvs, by simpa [tAt] using hvt⟩
        case round =>
          clear hn hvs hvt
          obtain ⟨i, q2, hi, rfl, rfl, hti, hn, hvs, hvt⟩ := hrel
          have hi0 : (0 : Int) ≤ i := by omega
          have bs := HI.out.bS wr hn.below F hF2
          have bl := HI.out.bL wr hn.below F hF2
          by_cases hil : i < (SS F).length + (LL F).length
          · have hil' : (i : Int) < ((SS F).length : Int) + ((LL F).length : Int) := by omega
            by_cases hA : i < (SS F).length
            · have hA' : (i : Int) < (SS F).length := by omega
              obtain ⟨g, o, u, hp, hc, hrd⟩ := HI.out.eS wr hn.below F hF2 i hA
              obtain ⟨pu, cu, rfl⟩ := hrd.shape
              rw [hp] at bs
              clear hp
              go_wp2_with fail
              go_quiet (fail)
              go_wp2_with fail
              refine wp_gen (fun W => Below wr.heap.size wr W) (below_drewN wr nq) ?_
              intro W hW0
              have hW := hW0.drew
              clear hW0
              have hnW := hn.keep hW
              have hvsW := hvs.keep (hW.block S (NowV.lt hn (by simp)))
              have hvtW := hvt.keep (hW.block (S + 1) (NowV.lt hn (by simp)))
              have hcv := rd_text (hrd.keep (bel_call HW.out.1 hnW.below))
              have hcs : W.drew.cell? ⟨S, F, none⟩ = some (.string (strOfNums (sAt (SS F) i))) := by have := hvsW.1 F hF2; rw [this]; unfold upd; rw [if_pos rfl]
              have hzs := hvsW.2 F
              have hbl := HI.out.lS F hF2 i hA
              have had := str_add (sAt (SS F) i) (SS F)[i] (by omega)
              obtain ⟨hat1, hat2, hat3, hat4⟩ := at_sure (SS F) (LL F) i hA
              have HT := Lib.hid (And.intro hat1 (And.intro hat2 (And.intro hat3 hat4)))
              clear hat1 hat2 hat3 hat4
              refine wp_region_still_tail 7 (by kernel_rfl) (by kernel_rfl) ?_
              change wpStill _ _ W.drew (fun a' => wpList _ _ _ _ a' W.drew) _ _
              generalize W.drew = W2 at *
              simp only [List.take_succ_cons, List.take_zero, List.drop_succ_cons, List.drop_zero]
              repeat still_step
              try refine wpStill_nil ?_
              go_upto_region 20 with fail
              refine wp_gen (fun W => NowV w1 [S + 1, S] (w.heap.size + 1 + 1) (put2 F (fileAt (SS F) (LL F) i) (oth SS LL F) q2) W ∧ VarS W S (upd (fst SS F) F (sAt (SS F) (i + 1))) ∧ VarS W (S + 1) (upd (fst LL F) F (tAt (SS F) (LL F) i))) ⟨hnW.set (by simp) F _, ?_, hvtW.keep (set_heap (by omega))⟩ ?_
              · have := hvsW.set (x := sAt (SS F) i ++ (SS F)[i]) hF2
                rw [upd_upd, ← HT.out.2.1] at this
                rw [← HT.out.2.1]
                exact this
              clear hnW hvsW hvtW hcv hcs hzs had hn hvs hvt bs bl hc hW
              rintro W3 ⟨hn, hvs, hvt⟩
              have bs := HI.out.bS W3 hn.below F hF2
              by_cases hbig : 16384 < total SS LL F + (sAt (SS F) i).length + (tAt (SS F) (LL F) i).length + (SS F)[i].length
              · have hbig' : (16384 : Int) < ((total SS LL F : Nat) : Int) + ((sAt (SS F) i).length : Int) + ((tAt (SS F) (LL F) i).length : Int) + ((SS F)[i].length : Int) := by omega
                go_wp2_with (go_at_call 9; refine (works_c _).mono ?_; rintro e w3 ⟨rfl, hb3⟩)
                go_ret
                exact ⟨rfl, bel_call (bel_call HW.out.1 hn.below) hb3⟩
              · have hbig' : ¬ (16384 : Int) < ((total SS LL F : Nat) : Int) + ((sAt (SS F) i).length : Int) + ((tAt (SS F) (LL F) i).length : Int) + ((SS F)[i].length : Int) := by omega
                have hne : ((i : Int) == ((SS F).length : Int)) = false := by simp; omega
                have hst := stands_at_i (SS F) (LL F) i (by omega)
                have hos := oth_stands SS LL F hF2 htot
                have kw := nowv_write hn (Below.refl _ _) (put2_ok (f := F) (q := q2) (small_at (SS F) (LL F) i (by omega) (by omega)) (oth_small SS LL F hF2 htot H60.out)) F _ (SS F)[i] (rdb_rdm hrd (bel_call HW.out.1 hn.below) _ _ HW.out.1.size) (by omega)
                  (put2_write hF2 (fileAt (SS F) (LL F) i) (oth SS LL F) q2 (SS F)[i] (by rw [hst, hos, List.length_append]; omega))
                rw [HT.out.1] at kw
                clear hst hos
                go_wp2_with fail
                refine kw.mono ?_
                rintro e w4 ⟨rfl, hn4, hs4, hA4⟩
                go_wp2_with fail
                go_roundw
                case rel =>
                  have e3 := HT.out.2.2.1
                  have e2 := HT.out.2.1
                  refine ⟨i + 1, _, by omega, by go_num, ?_, ?_, hn4, hvs.keep (hA4 S (by simp)), ?_⟩
                  · rw [e2, e3]; simp only [List.length_append]; congr 1; push_cast; omega
                  · rw [e2, e3, List.length_append]; omega
                  · rw [e3]; exact hvt.keep (hA4 (S + 1) (by simp))
                case measure => simp [intOf]; omega
            · have hA' : ¬ (i : Int) < (SS F).length := by omega
              obtain ⟨k, hik⟩ : ∃ k, i = (SS F).length + k := ⟨i - (SS F).length, by omega⟩
              have hkL : k < (LL F).length := by omega
              have k0 : (0 : Int) ≤ k := by omega
              have k1 : (k : Int) < (LL F).length := by omega
              have HSUB := Lib.hid (show IntKind.i64.wrap ((i : Int) - ((SS F).length : Int)) = (k : Int) by rw [IntKind.wrap_i64]; omega)
              have HIK := Lib.hid hik
              have hik1 : i ≤ (SS F).length + k := by omega
              have hik2 : (SS F).length + k ≤ i := by omega
              clear hik
              by_cases hk0 : k = 0
              · have HK0 := Lib.hid hk0
                have hi2 : i ≤ (SS F).length := by omega
                clear hk0
                obtain ⟨g, o, u, hp, hc, hrd⟩ := HI.out.eL wr hn.below F hF2 k hkL
                obtain ⟨pu, cu, rfl⟩ := hrd.shape
                rw [hp] at bl
                clear hp
                go_wp2_with fail
                go_quiet (fail)
                go_wp2_with fail
                have hsub := HSUB.out
                go_quiet (fail)
                clear hsub
                go_wp2_with fail
                refine wp_gen (fun W => Below wr.heap.size wr W) (by first | exact below_drewN wr _ | exact bel_call (below_drewN wr _) (below_drewN _ _)) ?_
                intro W hW0
                have hW := hW0.drew
                clear hW0
                have hnW := hn.keep hW
                have hvsW := hvs.keep (hW.block S (NowV.lt hn (by simp)))
                have hvtW := hvt.keep (hW.block (S + 1) (NowV.lt hn (by simp)))
                have hcv := rd_text (hrd.keep (bel_call HW.out.1 hnW.below))
                have hcs : W.drew.cell? ⟨S + 1, F, none⟩ = some (.string (strOfNums (tAt (SS F) (LL F) i))) := by have := hvtW.1 F hF2; rw [this]; unfold upd; rw [if_pos rfl]
                have hzs := hvtW.2 F
                have hbl := HI.out.lL F hF2 k hkL
                have had := str_add (tAt (SS F) (LL F) i) (LL F)[k] (by omega)
                have HT := Lib.hid (at_turn' (SS F) (LL F) i k HIK.out HK0.out hkL (by omega))
                refine wp_region_still_tail 7 (by kernel_rfl) (by kernel_rfl) ?_
                change wpStill _ _ W.drew (fun a' => wpList _ _ _ _ a' W.drew) _ _
                generalize W.drew = W2 at *
                simp only [List.take_succ_cons, List.take_zero, List.drop_succ_cons, List.drop_zero]
                repeat still_step
                try refine wpStill_nil ?_
                go_upto_region 20 with fail
                refine wp_gen (fun W => NowV w1 [S + 1, S] (w.heap.size + 1 + 1) (put2 F (fileAt (SS F) (LL F) i) (oth SS LL F) q2) W ∧ VarS W S (upd (fst SS F) F (sAt (SS F) i)) ∧ VarS W (S + 1) (upd (fst LL F) F (tAt (SS F) (LL F) (i + 1)))) ⟨hnW.set (a := S + 1) (by simp) F _, hvsW.keep (set_heap (D := S + 1) (g := S) (by omega)), ?_⟩ ?_
                · have := hvtW.set (x := tAt (SS F) (LL F) i ++ (LL F)[k]) hF2
                  rw [upd_upd, ← HT.out.2.2] at this
                  rw [← HT.out.2.2]
                  exact this
                clear hnW hvsW hvtW hcv hcs hzs had hn hvs hvt bs bl hc hW
                rintro W3 ⟨hn, hvs, hvt⟩
                have bs := HI.out.bS W3 hn.below F hF2
                by_cases hbig : 16384 < total SS LL F + (sAt (SS F) i).length + (tAt (SS F) (LL F) i).length + (LL F)[k].length
                · have hbig' : (16384 : Int) < ((total SS LL F : Nat) : Int) + ((sAt (SS F) i).length : Int) + ((tAt (SS F) (LL F) i).length : Int) + ((LL F)[k].length : Int) := by omega
                  go_wp2_with (go_at_call 9; refine (works_c _).mono ?_; rintro e w3 ⟨rfl, hb3⟩)
                  go_ret
                  exact ⟨rfl, bel_call (bel_call HW.out.1 hn.below) hb3⟩
                · have hbig' : ¬ (16384 : Int) < ((total SS LL F : Nat) : Int) + ((sAt (SS F) i).length : Int) + ((tAt (SS F) (LL F) i).length : Int) + ((LL F)[k].length : Int) := by omega
                  have hne : ((i : Int) == ((SS F).length : Int)) = true := by simp; omega
                  have hst := stands_at_i (SS F) (LL F) i (by omega)
                  have hos := oth_stands SS LL F hF2 htot
                  have ks := nowv_sync hn (put2_ok (f := F) (q := q2) (small_at (SS F) (LL F) i (by omega) (by omega)) (oth_small SS LL F hF2 htot H60.out)) F (put2_sync hF2 (fileAt (SS F) (LL F) i) (oth SS LL F) q2)
                  go_wp2_with fail
                  refine ks.mono ?_
                  rintro e w4 ⟨rfl, hn4, hs4, hA4⟩
                  have kw := nowv_write hn4 (Below.refl _ _) (put2_ok (f := F) (q := wq q2) ⟨by show (fileAt (SS F) (LL F) i).stands.length + sizes [] ≤ _; rw [hst, List.length_append]; simp only [sizes]; omega, by show ([] : List Chg).length ≤ _; simp⟩ (oth_small SS LL F hF2 htot H60.out)) F _ (LL F)[k] (rdb_rdm hrd (bel_call HW.out.1 hn4.below) _ _ HW.out.1.size) (by omega)
                    (put2_write hF2 ⟨(fileAt (SS F) (LL F) i).stands, []⟩ (oth SS LL F) (wq q2) (LL F)[k] (by rw [stands_nil, hst, hos, List.length_append]; omega))
                  clear hst hos ks
                  go_wp2_with fail
                  refine kw.mono ?_
                  rintro e w5 ⟨rfl, hn5, hs5, hA5⟩
                  rw [show (put2 F ⟨(fileAt (SS F) (LL F) i).stands, [] ++ [.wr (LL F)[k]]⟩ (oth SS LL F) (wq (wq q2))) = put2 F (fileAt (SS F) (LL F) (i + 1)) (oth SS LL F) (wq (wq q2)) by rw [← HT.out.1]; rfl] at hn5
                  go_wp2_with fail
                  go_roundw
                  case rel =>
                    have e3 := HT.out.2.1
                    have e2 := HT.out.2.2
                    refine ⟨i + 1, _, by omega, by go_num, ?_, ?_, hn5, ?_, hvt.keep ((hA5 (S + 1) (by simp)).trans (hA4 (S + 1) (by simp)))⟩
                    · rw [e2, e3]; simp only [List.length_append]; congr 1; push_cast; omega
                    · rw [e2, e3, List.length_append]; omega
                    · rw [e3]; exact hvs.keep ((hA5 S (by simp)).trans (hA4 S (by simp)))
                  case measure => simp [intOf]; omega
              · have HK0 := Lib.hid hk0
                obtain ⟨g, o, u, hp, hc, hrd⟩ := HI.out.eL wr hn.below F hF2 k hkL
                obtain ⟨pu, cu, rfl⟩ := hrd.shape
                rw [hp] at bl
                clear hp
                go_wp2_with fail
                go_quiet (fail)
                go_wp2_with fail
                have hsub := HSUB.out
                go_quiet (fail)
                clear hsub
                go_wp2_with fail
                refine wp_gen (fun W => Below wr.heap.size wr W) (by first | exact below_drewN wr _ | exact bel_call (below_drewN wr _) (below_drewN _ _)) ?_
                intro W hW0
                have hW := hW0.drew
                clear hW0
                have hnW := hn.keep hW
                have hvsW := hvs.keep (hW.block S (NowV.lt hn (by simp)))
                have hvtW := hvt.keep (hW.block (S + 1) (NowV.lt hn (by simp)))
                have hcv := rd_text (hrd.keep (bel_call HW.out.1 hnW.below))
                have hcs : W.drew.cell? ⟨S + 1, F, none⟩ = some (.string (strOfNums (tAt (SS F) (LL F) i))) := by have := hvtW.1 F hF2; rw [this]; unfold upd; rw [if_pos rfl]
                have hzs := hvtW.2 F
                have hbl := HI.out.lL F hF2 k hkL
                have had := str_add (tAt (SS F) (LL F) i) (LL F)[k] (by omega)
                have HT := Lib.hid (at_loose' (SS F) (LL F) i k HIK.out (by omega) hkL)
                refine wp_region_still_tail 7 (by kernel_rfl) (by kernel_rfl) ?_
                change wpStill _ _ W.drew (fun a' => wpList _ _ _ _ a' W.drew) _ _
                generalize W.drew = W2 at *
                simp only [List.take_succ_cons, List.take_zero, List.drop_succ_cons, List.drop_zero]
                repeat still_step
                try refine wpStill_nil ?_
                go_upto_region 20 with fail
                refine wp_gen (fun W => NowV w1 [S + 1, S] (w.heap.size + 1 + 1) (put2 F (fileAt (SS F) (LL F) i) (oth SS LL F) q2) W ∧ VarS W S (upd (fst SS F) F (sAt (SS F) i)) ∧ VarS W (S + 1) (upd (fst LL F) F (tAt (SS F) (LL F) (i + 1)))) ⟨hnW.set (a := S + 1) (by simp) F _, hvsW.keep (set_heap (D := S + 1) (g := S) (by omega)), ?_⟩ ?_
                · have := hvtW.set (x := tAt (SS F) (LL F) i ++ (LL F)[k]) hF2
                  rw [upd_upd, ← HT.out.2.2] at this
                  rw [← HT.out.2.2]
                  exact this
                clear hnW hvsW hvtW hcv hcs hzs had hn hvs hvt bs bl hc hW
                rintro W3 ⟨hn, hvs, hvt⟩
                have bs := HI.out.bS W3 hn.below F hF2
                by_cases hbig : 16384 < total SS LL F + (sAt (SS F) i).length + (tAt (SS F) (LL F) i).length + (LL F)[k].length
                · have hbig' : (16384 : Int) < ((total SS LL F : Nat) : Int) + ((sAt (SS F) i).length : Int) + ((tAt (SS F) (LL F) i).length : Int) + ((LL F)[k].length : Int) := by omega
                  go_wp2_with (go_at_call 9; refine (works_c _).mono ?_; rintro e w3 ⟨rfl, hb3⟩)
                  go_ret
                  exact ⟨rfl, bel_call (bel_call HW.out.1 hn.below) hb3⟩
                · have hbig' : ¬ (16384 : Int) < ((total SS LL F : Nat) : Int) + ((sAt (SS F) i).length : Int) + ((tAt (SS F) (LL F) i).length : Int) + ((LL F)[k].length : Int) := by omega
                  have hne : ((i : Int) == ((SS F).length : Int)) = false := by simp; omega
                  have hst := stands_at_i (SS F) (LL F) i (by omega)
                  have hos := oth_stands SS LL F hF2 htot
                  have kw := nowv_write hn (Below.refl _ _) (put2_ok (f := F) (q := q2) (small_at (SS F) (LL F) i (by omega) (by omega)) (oth_small SS LL F hF2 htot H60.out)) F _ (LL F)[k] (rdb_rdm hrd (bel_call HW.out.1 hn.below) _ _ HW.out.1.size) (by omega)
                    (put2_write hF2 (fileAt (SS F) (LL F) i) (oth SS LL F) q2 (LL F)[k] (by rw [hst, hos, List.length_append]; omega))
                  rw [HT.out.1] at kw
                  clear hst hos
                  go_wp2_with fail
                  refine kw.mono ?_
                  rintro e w4 ⟨rfl, hn4, hs4, hA4⟩
                  go_wp2_with fail
                  go_roundw
                  case rel =>
                    have e3 := HT.out.2.1
                    have e2 := HT.out.2.2
                    refine ⟨i + 1, _, by omega, by go_num, ?_, ?_, hn4, ?_, hvt.keep (hA4 (S + 1) (by simp))⟩
                    · rw [e2, e3]; simp only [List.length_append]; congr 1; push_cast; omega
                    · rw [e2, e3, List.length_append]; omega
                    · rw [e3]; exact hvs.keep (hA4 S (by simp))
                  case measure => simp [intOf]; omega
          · have hil' : ¬ (i : Int) < ((SS F).length : Int) + ((LL F).length : Int) := by omega
            have hie : i = (SS F).length + (LL F).length := by omega
            by_cases hL0 : (LL F).length = 0
            · have hl0 : (((LL F).length : Int) == 0) = true := beq_iff_eq.2 (by omega)
              have hLn : LL F = [] := List.length_eq_zero_iff.1 hL0
              have HT := Lib.hid (at_out0 (SS F) (LL F) i hie hLn (by omega))
              have hoks := put2_ok (f := F) (q := q2) (small_at (SS F) (LL F) i (by omega) (by omega)) (oth_small SS LL F hF2 htot H60.out)
              clear hie hL0 hLn
              go_wp2_with fail
              go_quiet (fail)
              go_wp2_with fail
              have ks := nowv_sync (hn.keep (below_drewN wr nq)) hoks F (put2_sync hF2 (fileAt (SS F) (LL F) i) (oth SS LL F) q2)
              rw [HT.out.1, kst_end SS LL _ F hF2] at ks
              refine ks.mono ?_
              rintro e w4 ⟨rfl, hn4, hs4, hA4⟩
              go_wp2_with fail
              go_roundw
              case rel =>
                have e2 := HT.out.2.1
                have e3 := HT.out.2.2
                refine ⟨F + 1, _, by omega, by go_num, ?_, ?_, fun j hj => ?_, hn4, ?_, ?_⟩
                · rw [e2, e3]; simp only [total]; congr 1 <;> omega
                · simp only [total]; rw [← e2, ← e3]; omega
                · by_cases hjF : j < F
                  · exact H60.out j hjF
                  · obtain rfl : j = F := by omega
                    omega
                · rw [← upd_next, ← e2]; exact hvs.keep (hA4 S (by simp))
                · rw [← upd_next, ← e3]; exact hvt.keep (hA4 (S + 1) (by simp))
              case measure => simp [intOf]; omega
            · have hl0 : (((LL F).length : Int) == 0) = false := beq_false_of_ne (by omega)
              have HT := Lib.hid (at_out (SS F) (LL F) i hie (by omega))
              rw [HT.out.1, kst_end SS LL _ F hF2] at hn
              clear hie hL0
              go_wp2_with fail
              go_quiet (fail)
              go_wp2_with fail
              go_roundw
              case rel =>
                have e2 := HT.out.2.1
                have e3 := HT.out.2.2
                refine ⟨F + 1, _, by omega, by go_num, ?_, ?_, fun j hj => ?_, hn.keep (below_drewN wr nq), ?_, ?_⟩
                · rw [e2, e3]; simp only [total]; congr 1 <;> omega
                · simp only [total]; rw [← e2, ← e3]; omega
                · by_cases hjF : j < F
                  · exact H60.out j hjF
                  · obtain rfl : j = F := by omega
                    omega
                · rw [← upd_next, ← e2]; exact hvs
                · rw [← upd_next, ← e3]; exact hvt
              case measure => simp [intOf]; omega
    · have hFe : F = 2 := by omega
      subst hFe
      clear HZ
      have hok := kst_ok SS LL q htot H60.out
      have hroom := kst_room SS LL q htot
      have HP := Lib.hid hpk
      have n0 : (0 : Int) ≤ ((total SS LL 2 : Nat) : Int) := by omega
      have n1 : ((total SS LL 2 : Nat) : Int) ≤ 16384 := by omega
      have kr := nowv_room hn hok hroom
      have TL := Lib.hid (tot_le SS LL htot)
      have EOK := Lib.hid (e_ok SS LL pk · htot)
      clear hroom
      go_wp2_with fail
      refine kr.mono ?_
      rintro e w4 ⟨rfl, hn4, hs4, hA4⟩
      have hvs4 := hvs.keep (hA4 S (by simp))
      have hvt4 := hvt.keep (hA4 (S + 1) (by simp))
      clear hvs hvt hn kr
      go_wp2_with fail
      refine (nowv_off hn4 (kst_off SS LL q)).mono ?_
      rintro e w5 ⟨rfl, hn5, hs5, hA5⟩
      have hvs5 := hvs4.keep (hA5 S (by simp))
      have hvt5 := hvt4.keep (hA5 (S + 1) (by simp))
      clear hvs4 hvt4 hn4
      go_wp2_with fail
      refine (nowv_on hn5 (Below.refl _ _) hok pp plen pcap pk (HP.out.pkm (bel_call HW.out.1 hn5.below) _ _ HW.out.1.size) (kst_on SS LL q pk)).mono ?_
      rintro e w6 ⟨rfl, hn6, hs6, hA6⟩
      have hvs6 := hvs5.keep (hA6 S (by simp))
      have hvt6 := hvt5.keep (hA6 (S + 1) (by simp))
      clear hvs5 hvt5 hn5 hok
      go_wp2_with fail
      go_loopw [15] (fun fv wr => ∃ f : Nat, f ≤ 2 ∧ fv = .int .i64 f ∧ NowV w1 [S + 1, S] (w.heap.size + 1 + 1) (kd (eFil SS LL pk 0) (eFil SS LL pk 1) q) wr ∧ VarS wr S (fst SS 2) ∧ VarS wr (S + 1) (fst LL 2)) (fun f _ => 2 - (intOf f).toNat)
      case atStart => exact ⟨0, by omega, rfl, hn6, hvs6, hvt6⟩
      case round =>
        clear hn6 hvs6 hvt6 hs4 hs5 hs6 hA4 hA5 hA6
        obtain ⟨f, hf, rfl, hn, hvs, hvt⟩ := hrel
        by_cases hf2 : f < 2
        · have f0 : (0 : Int) ≤ f := by omega
          have f1 : (f : Int) < 2 := by omega
          have hcs : wr.cell? ⟨S, f, none⟩ = some (.string (strOfNums (SS f).flatten)) := by have := hvs.1 f hf2; rw [this]; unfold fst; rw [if_pos hf2]
          have hct : wr.cell? ⟨S + 1, f, none⟩ = some (.string (strOfNums (LL f).flatten)) := by have := hvt.1 f hf2; rw [this]; unfold fst; rw [if_pos hf2]
          have hlen := TL.out f hf2
          have hsz := strOfNums_size (LL f).flatten
          generalize hAA : (SS f).flatten = A at hcs hlen
          generalize hBB : (LL f).flatten = B at hct hlen hsz
          have HAB := Lib.hid (And.intro hAA hBB)
          clear hAA hBB
          by_cases hpl : f < plen
          · have hpl' : (f : Int) < plen := by omega
            obtain ⟨g, o, rfl, hc⟩ := HP.out.1 f hpl
            have hc' : wr.cell? ⟨g, o + f, none⟩ = some (.int .i64 (pk f)) := by rw [(bel_call HW.out.1 hn.below).cell (block_lt_of_cell hc)]; exact hc
            clear hc
            have hm : ∀ z, pk f = z → z = pk f := fun z h => h.symm
            generalize hz : pk f = z at hc'
            have HZ := Lib.hid hz
            clear hz hm
            by_cases p0 : z < 0
            · have HK := Lib.hid (show B.take (pk f).toNat = B.take 0 by rw [HZ.out, show z.toNat = 0 by omega])
              go_wp2_with fail
              go_quiet (fail)
              go_wp2_with fail
              refine wp_gen (fun W => Below wr.heap.size wr W) (by first | exact below_drewN wr _ | exact Below.refl _ _) ?_
              intro W hW0
              have hW := hW0.drew
              clear hW0
              have hnW := hn.keep hW
              have hvsW := hvs.keep (hW.block S (NowV.lt hn (by simp)))
              have hvtW := hvt.keep (hW.block (S + 1) (NowV.lt hn (by simp)))
              have hcsW : W.drew.cell? ⟨S, f, none⟩ = some (.string (strOfNums A)) := by have := hvsW.1 f hf2; rw [this]; unfold fst; rw [if_pos hf2, HAB.out.1]
              have hctW : W.drew.cell? ⟨S + 1, f, none⟩ = some (.string (strOfNums B)) := by have := hvtW.1 f hf2; rw [this]; unfold fst; rw [if_pos hf2, HAB.out.2]
              have hex := str_cut B (0)
              have had := str_add0 A (by omega)
              have ks := nowv_stands hnW (EOK.out q) rfl f hf2 (strOfNums A) (r := true) (by rw [e_file SS LL pk q f hf2, HAB.out.1, HAB.out.2, HK.out]; simp)
              clear hcs hct
              refine wp_region_still_tail 11 (by kernel_rfl) (by kernel_rfl) ?_
              change wpStill _ _ W.drew (fun a' => wpList _ _ _ _ a' W.drew) _ _
              generalize W.drew = W2 at *
              simp only [List.take_succ_cons, List.take_zero, List.drop_succ_cons, List.drop_zero]
              repeat still_step
              try refine wpStill_nil ?_
              go_wp2_with fail
              refine ks.mono ?_
              rintro e w8 ⟨rfl, hn8, hs8, hA8⟩
              go_wp2_with fail
              go_roundw
              case rel => exact ⟨f + 1, by omega, by go_num, hn8, hvsW.keep (hA8 S (by simp)), hvtW.keep (hA8 (S + 1) (by simp))⟩
              case measure => simp [intOf]; omega
            · by_cases p1 : z ≤ (B.length : Int)
              · obtain ⟨m, rfl⟩ : ∃ m : Nat, z = m := ⟨z.toNat, by omega⟩
                have HK := Lib.hid (show B.take (pk f).toNat = B.take m by rw [HZ.out]; simp)
                go_wp2_with fail
                go_quiet (fail)
                go_wp2_with fail
                refine wp_gen (fun W => Below wr.heap.size wr W) (by first | exact below_drewN wr _ | exact Below.refl _ _) ?_
                intro W hW0
                have hW := hW0.drew
                clear hW0
                have hnW := hn.keep hW
                have hvsW := hvs.keep (hW.block S (NowV.lt hn (by simp)))
                have hvtW := hvt.keep (hW.block (S + 1) (NowV.lt hn (by simp)))
                have hcsW : W.drew.cell? ⟨S, f, none⟩ = some (.string (strOfNums A)) := by have := hvsW.1 f hf2; rw [this]; unfold fst; rw [if_pos hf2, HAB.out.1]
                have hctW : W.drew.cell? ⟨S + 1, f, none⟩ = some (.string (strOfNums B)) := by have := hvtW.1 f hf2; rw [this]; unfold fst; rw [if_pos hf2, HAB.out.2]
                have hex := str_cut B (m)
                have had := str_add A (B.take (m)) (by rw [List.length_take]; omega)
                have ks := nowv_stands hnW (EOK.out q) rfl f hf2 (strOfNums (A ++ B.take (m))) (r := true) (by rw [e_file SS LL pk q f hf2, HAB.out.1, HAB.out.2, HK.out]; simp)
                clear hcs hct
                refine wp_region_still_tail 11 (by kernel_rfl) (by kernel_rfl) ?_
                change wpStill _ _ W.drew (fun a' => wpList _ _ _ _ a' W.drew) _ _
                generalize W.drew = W2 at *
                simp only [List.take_succ_cons, List.take_zero, List.drop_succ_cons, List.drop_zero]
                repeat still_step
                try refine wpStill_nil ?_
                go_wp2_with fail
                refine ks.mono ?_
                rintro e w8 ⟨rfl, hn8, hs8, hA8⟩
                go_wp2_with fail
                go_roundw
                case rel => exact ⟨f + 1, by omega, by go_num, hn8, hvsW.keep (hA8 S (by simp)), hvtW.keep (hA8 (S + 1) (by simp))⟩
                case measure => simp [intOf]; omega
              · have HK := Lib.hid (show B.take (pk f).toNat = B.take B.length by rw [HZ.out, List.take_length, List.take_of_length_le (by omega)])
                go_wp2_with fail
                go_quiet (fail)
                go_wp2_with fail
                refine wp_gen (fun W => Below wr.heap.size wr W) (by first | exact below_drewN wr _ | exact Below.refl _ _) ?_
                intro W hW0
                have hW := hW0.drew
                clear hW0
                have hnW := hn.keep hW
                have hvsW := hvs.keep (hW.block S (NowV.lt hn (by simp)))
                have hvtW := hvt.keep (hW.block (S + 1) (NowV.lt hn (by simp)))
                have hcsW : W.drew.cell? ⟨S, f, none⟩ = some (.string (strOfNums A)) := by have := hvsW.1 f hf2; rw [this]; unfold fst; rw [if_pos hf2, HAB.out.1]
                have hctW : W.drew.cell? ⟨S + 1, f, none⟩ = some (.string (strOfNums B)) := by have := hvtW.1 f hf2; rw [this]; unfold fst; rw [if_pos hf2, HAB.out.2]
                have hex := str_cut B (B.length)
                have had := str_add A B (by omega)
                have ks := nowv_stands hnW (EOK.out q) rfl f hf2 (strOfNums (A ++ B)) (r := true) (by rw [e_file SS LL pk q f hf2, HAB.out.1, HAB.out.2, HK.out]; simp)
                clear hcs hct
                refine wp_region_still_tail 11 (by kernel_rfl) (by kernel_rfl) ?_
                change wpStill _ _ W.drew (fun a' => wpList _ _ _ _ a' W.drew) _ _
                generalize W.drew = W2 at *
                simp only [List.take_succ_cons, List.take_zero, List.drop_succ_cons, List.drop_zero]
                repeat still_step
                try refine wpStill_nil ?_
                go_wp2_with fail
                refine ks.mono ?_
                rintro e w8 ⟨rfl, hn8, hs8, hA8⟩
                go_wp2_with fail
                go_roundw
                case rel => exact ⟨f + 1, by omega, by go_num, hn8, hvsW.keep (hA8 S (by simp)), hvtW.keep (hA8 (S + 1) (by simp))⟩
                case measure => simp [intOf]; omega
          · have hpl' : ¬ (f : Int) < plen := by omega
            have HK := Lib.hid (show B.take (pk f).toNat = B.take 0 by rw [HP.out.2.1 f (by omega)]; rfl)
            go_wp2_with fail
            refine wp_gen (fun W => Below wr.heap.size wr W) (by first | exact below_drewN wr _ | exact Below.refl _ _) ?_
            intro W hW0
            have hW := hW0.drew
            clear hW0
            have hnW := hn.keep hW
            have hvsW := hvs.keep (hW.block S (NowV.lt hn (by simp)))
            have hvtW := hvt.keep (hW.block (S + 1) (NowV.lt hn (by simp)))
            have hcsW : W.drew.cell? ⟨S, f, none⟩ = some (.string (strOfNums A)) := by have := hvsW.1 f hf2; rw [this]; unfold fst; rw [if_pos hf2, HAB.out.1]
            have hctW : W.drew.cell? ⟨S + 1, f, none⟩ = some (.string (strOfNums B)) := by have := hvtW.1 f hf2; rw [this]; unfold fst; rw [if_pos hf2, HAB.out.2]
            have hex := str_cut B (0)
            have had := str_add0 A (by omega)
            have ks := nowv_stands hnW (EOK.out q) rfl f hf2 (strOfNums A) (r := true) (by rw [e_file SS LL pk q f hf2, HAB.out.1, HAB.out.2, HK.out]; simp)
            clear hcs hct
            refine wp_region_still_tail 11 (by kernel_rfl) (by kernel_rfl) ?_
            change wpStill _ _ W.drew (fun a' => wpList _ _ _ _ a' W.drew) _ _
            generalize W.drew = W2 at *
            simp only [List.take_succ_cons, List.take_zero, List.drop_succ_cons, List.drop_zero]
            repeat still_step
            try refine wpStill_nil ?_
            go_wp2_with fail
            refine ks.mono ?_
            rintro e w8 ⟨rfl, hn8, hs8, hA8⟩
            go_wp2_with fail
            go_roundw
            case rel => exact ⟨f + 1, by omega, by go_num, hn8, hvsW.keep (hA8 S (by simp)), hvtW.keep (hA8 (S + 1) (by simp))⟩
            case measure => simp [intOf]; omega
        · have hff : f = 2 := by omega
          subst hff
          go_wp2_with (go_at_call 9; refine (works_c _).mono ?_; rintro e w7 ⟨rfl, hb7⟩)
          go_ret
          exact ⟨rfl, bel_call (bel_call HW.out.1 hn.below) hb7⟩
end Go.Proofs.Ytfohemgfiidokaa.diskKeeps
