/- Plain: what is read of frames that were written. -/
import Derived.Test.YtfohemgfiidokaaGreatDoorYo
namespace Go.Proofs.YtfohemgfiidokaaGreatDoor
open Go.RowKit Go.Sort

/-- records that a vault takes -/
def RecOk (ls : List (List Int)) : Prop := ∀ r ∈ ls, Bytes r ∧ r.length ≤ 32768
theorem RecOk.tail {r : List Int} {ls : List (List Int)} (h : RecOk (r :: ls)) : RecOk ls := fun x hx => h x (List.mem_cons_of_mem _ hx)
theorem low4_len (r : List Int) (h : r.length ≤ 32768) : ofBytes (low (r.length : Int) 4) = r.length := by
  rw [ofBytes_low]; show (r.length : Int) % 4294967296 = _; omega
theorem take_app {α : Type} (a b : List α) (n : Nat) (h : a.length = n) : (a ++ b).take n = a := by subst h; simp
theorem drop_app {α : Type} (a b : List α) (n : Nat) (h : a.length = n) : (a ++ b).drop n = b := by subst h; simp
theorem nxt_frame (g k : Int) (r t : List Int) (hr : r.length ≤ 32768) : nxt g k (frameI g k r ++ t) = some (r, t) := by
  have h1 : (frameI g k r ++ t).take 4 = low (r.length : Int) 4 := by
    rw [frameI, recI, List.append_assoc, List.append_assoc]; exact take_app _ _ 4 (low_length _ _)
  have hl : (frameI g k r ++ t).length = r.length + 36 + t.length := by rw [List.length_append, frameI_len]
  unfold nxt
  rw [if_neg (by omega), h1, low4_len r hr, Int.toNat_natCast, if_neg (by omega)]
  have h2 : (frameI g k r ++ t).take (r.length + 4) = recI r := by rw [frameI, List.append_assoc]; exact take_app _ _ _ (recI_len r)
  have h3 : (frameI g k r ++ t).drop (r.length + 4) = fchk g k (recI r) ++ t := by rw [frameI, List.append_assoc]; exact drop_app _ _ _ (recI_len r)
  rw [h2, h3, if_pos (take_app (fchk g k (recI r)) t 32 (chk_len _)).symm]
  have h4 : (recI r).drop 4 = r := drop_app _ _ 4 (low_length _ _)
  have h5 : (frameI g k r ++ t).drop (r.length + 36) = t := drop_app _ _ _ (frameI_len g k r)
  rw [h4, h5]
/-- of a frame that is cut nothing is read -/
theorem nxt_cut (g k : Int) (r : List Int) (j : Nat) (hr : r.length ≤ 32768) (hj : j < r.length + 36) : nxt g k ((frameI g k r).take j) = none := by
  have hl : ((frameI g k r).take j).length = j := by rw [List.length_take, frameI_len]; omega
  unfold nxt
  by_cases h36 : j < 36
  · rw [if_pos (by omega)]
  · rw [if_neg (by omega)]
    have h1 : ((frameI g k r).take j).take 4 = low (r.length : Int) 4 := by
      rw [List.take_take, Nat.min_eq_left (by omega), frameI, recI, List.append_assoc]; exact take_app _ _ 4 (low_length _ _)
    rw [h1, low4_len r hr, if_pos (by omega)]
theorem nxt_nil (g k : Int) : nxt g k [] = none := nxt_short (by simp)
/-- more fuel than bytes does nothing -/
theorem wholeF_fuel (g : Int) : ∀ (f : Nat) (k : Int) (b : List Int), b.length ≤ f → wholeF g f k b = wholeF g (f + 1) k b
  | 0, k, b, h => by
    have : b = [] := List.length_eq_zero_iff.1 (by omega)
    subst this
    rw [wholeF_none (nxt_nil g k), wholeF_none (nxt_nil g k)]
  | f + 1, k, b, h => by
    rw [wholeF, wholeF]
    cases hn : nxt g k b with
    | none => rfl
    | some p =>
      obtain ⟨r, t⟩ := p
      have ht : t.length + 36 ≤ b.length := by
        unfold nxt at hn
        split at hn
        · cases hn
        · split at hn
          · cases hn
          · split at hn
            · injection hn with hn
              injection hn with e1 e2
              rw [← e2, List.length_drop]; omega
            · cases hn
      show r :: wholeF g f (k + 1) t = r :: wholeF g (f + 1) (k + 1) t
      rw [wholeF_fuel g f (k + 1) t (by omega)]
theorem wholeF_enough (g k : Int) (b : List Int) (f : Nat) (h : b.length ≤ f) : wholeF g f k b = wholeF g b.length k b := by
  obtain ⟨m, rfl⟩ := Nat.exists_eq_add_of_le h
  clear h
  induction m with
  | zero => rfl
  | succ m ih => rw [← ih, ← Nat.add_assoc, ← wholeF_fuel g (b.length + m) k b (by omega)]
/-- what was written is read, up to what cannot be read -/
theorem whole_frames (g : Int) : ∀ (ls : List (List Int)) (k : Int) (t : List Int), RecOk ls → nxt g (k + ls.length) t = none → wholeF g (framesI g k ls ++ t).length k (framesI g k ls ++ t) = ls
  | [], k, t, _, ht => by
    simp only [framesI, List.nil_append]
    exact wholeF_none (by simpa using ht) _
  | r :: ls, k, t, h, ht => by
    have hr := h r (List.mem_cons_self ..)
    have hl : (framesI g k (r :: ls) ++ t).length = (framesI g (k + 1) ls ++ t).length + 36 + r.length := by
      simp only [framesI, List.length_append, frameI_len]; omega
    rw [hl, show (framesI g (k + 1) ls ++ t).length + 36 + r.length = ((framesI g (k + 1) ls ++ t).length + 35 + r.length) + 1 by omega, wholeF, framesI, List.append_assoc, nxt_frame g k r _ hr.2]
    dsimp only
    rw [wholeF_enough g (k + 1) _ _ (by omega), whole_frames g ls (k + 1) t h.tail (by rw [← ht]; congr 1; simp; omega)]
theorem head_take8 (g n : Int) (t : List Int) : (headI g n ++ t).take 8 = low g 8 := by
  rw [headI, List.append_assoc, List.append_assoc]; exact take_app _ _ 8 (low_length _ _)
theorem head_num (g n : Int) (t : List Int) : ((headI g n ++ t).drop 8).take 4 = low n 4 := by
  rw [headI, List.append_assoc, List.append_assoc, drop_app _ _ 8 (low_length _ _)]; exact take_app _ _ 4 (low_length _ _)
theorem head_take12 (g n : Int) (t : List Int) : (headI g n ++ t).take 12 = low g 8 ++ low n 4 := by
  rw [headI, List.append_assoc]; exact take_app _ _ 12 (by simp [low_length])
theorem head_chk (g n : Int) (t : List Int) : ((headI g n ++ t).drop 12).take 32 = chk (low g 8 ++ low n 4) := by
  rw [headI, List.append_assoc, drop_app _ _ 12 (by simp [low_length])]; exact take_app _ _ 32 (chk_len _)
theorem head_drop (g n : Int) (t : List Int) : (headI g n ++ t).drop 44 = t := drop_app _ _ 44 (headI_len g n)
/-- what a file with a head has -/
theorem look_head (f g n : Int) (t : List Int) (hg : 1 ≤ g ∧ g ≤ 4611686018427387904) (hf : g % 2 = f) (hn : 0 ≤ n ∧ n < 4294967296) :
    lookI f (headI g n ++ t) = if ((wholeI g t).length : Int) < n then none else some (g, wholeI g t) := by
  have hl : (headI g n ++ t).length = 44 + t.length := by rw [List.length_append, headI_len]
  have h8 : ofBytes ((headI g n ++ t).take 8) = g := by rw [head_take8, ofBytes_low]; show g % 18446744073709551616 = g; omega
  have h4 : ofBytes (((headI g n ++ t).drop 8).take 4) = n := by rw [head_num, ofBytes_low]; show n % 4294967296 = n; omega
  unfold lookI
  rw [if_neg (by omega), head_take12, head_chk, if_neg (by simp), h8, h4, if_neg (by omega), head_drop]
theorem look_short (f : Int) {b : List Int} (h : b.length < 44) : lookI f b = none := by unfold lookI; rw [if_pos h]
/-- a text of a generation that is sound -/
def Good (g : Int) (ls : List (List Int)) (b : List Int) : Prop := ∃ n : Nat, n ≤ ls.length ∧ b = headI g n ++ framesI g 0 ls
theorem Good.len {g : Int} {ls : List (List Int)} {b : List Int} (h : Good g ls b) : b.length = 44 + sizeI ls := by
  obtain ⟨n, -, rfl⟩ := h
  rw [List.length_append, headI_len, framesI_len]
/-- behind it, what cannot be read -/
theorem look_tail {f g : Int} {ls : List (List Int)} {b : List Int} (h : Good g ls b) (hr : RecOk ls) (hg : 1 ≤ g ∧ g ≤ 4611686018427387904) (hf : g % 2 = f) (hl : ls.length ≤ 1000000000) (t : List Int) (ht : nxt g ls.length t = none) : lookI f (b ++ t) = some (g, ls) := by
  obtain ⟨n, hn, rfl⟩ := h
  rw [List.append_assoc, look_head f g n _ hg hf (by omega)]
  have hw : wholeI g (framesI g 0 ls ++ t) = ls := whole_frames g ls 0 t hr (by rw [Int.zero_add]; exact ht)
  rw [hw, if_neg (by omega)]
theorem look_good {f g : Int} {ls : List (List Int)} {b : List Int} (h : Good g ls b) (hr : RecOk ls) (hg : 1 ≤ g ∧ g ≤ 4611686018427387904) (hf : g % 2 = f) (hl : ls.length ≤ 1000000000) : lookI f b = some (g, ls) := by
  have := look_tail h hr hg hf hl [] (nxt_nil _ _)
  rwa [List.append_nil] at this
/-- a beginning of frames: some records, and what cannot be read -/
theorem frames_take (g : Int) : ∀ (ls : List (List Int)) (k : Int) (j : Nat), RecOk ls → ∃ i t, i ≤ ls.length ∧ (framesI g k ls).take j = framesI g k (ls.take i) ++ t ∧ nxt g (k + i) t = none ∧ (sizeI ls ≤ j → i = ls.length ∧ t = []) ∧ (j < sizeI ls → i < ls.length)
  | [], k, j, _ => ⟨0, [], by simp, by simp [framesI], nxt_nil _ _, fun _ => by simp, fun h => by simp [sizeI] at h⟩
  | r :: ls, k, j, h => by
    have hr := h r (List.mem_cons_self ..)
    by_cases hj : j < r.length + 36
    · refine ⟨0, (frameI g k r).take j, by simp, ?_, ?_, fun hs => by simp only [sizeI] at hs; omega, fun _ => by simp⟩
      · simp only [framesI, List.take_zero, List.nil_append]
        rw [List.take_append_of_le_length (by rw [frameI_len]; omega)]
      · have := nxt_cut g k r j hr.2 hj
        simpa using this
    · obtain ⟨i, t, h1, h2, h3, h4, h5⟩ := frames_take g ls (k + 1) (j - (r.length + 36)) h.tail
      refine ⟨i + 1, t, by simp; omega, ?_, ?_, fun hs => ?_, fun hs => ?_⟩
      · simp only [framesI, List.take_succ_cons]
        rw [List.take_append, frameI_len, List.take_of_length_le (by rw [frameI_len]; omega), h2, List.append_assoc]
      · rw [← h3]; congr 1; simp; omega
      · simp only [sizeI] at hs
        obtain ⟨e1, e2⟩ := h4 (by omega)
        exact ⟨by simp; omega, e2⟩
      · simp only [sizeI] at hs
        have := h5 (by omega)
        simp; omega
theorem Good.app {g : Int} {ls ms : List (List Int)} {b : List Int} (h : Good g ls b) : Good g (ls ++ ms) (b ++ framesI g ls.length ms) := by
  obtain ⟨n, hn, rfl⟩ := h
  exact ⟨n, by simp; omega, by rw [List.append_assoc, framesI_append, Int.zero_add]⟩
theorem RecOk.app {ls ms : List (List Int)} (h : RecOk ls) (k : RecOk ms) : RecOk (ls ++ ms) := fun r hr => by
  rcases List.mem_append.1 hr with hr | hr
  · exact h r hr
  · exact k r hr
theorem RecOk.take {ls : List (List Int)} (h : RecOk ls) (n : Nat) : RecOk (ls.take n) := fun r hr => h r (List.mem_of_mem_take hr)
/-- a beginning of what an Add writes behind a sound text -/
theorem look_add {f g : Int} {ls ms : List (List Int)} {b : List Int} (h : Good g ls b) (hr : RecOk ls) (hm : RecOk ms) (hg : 1 ≤ g ∧ g ≤ 4611686018427387904) (hf : g % 2 = f) (hl : ls.length + ms.length ≤ 1000000000) (j : Nat) :
    ∃ i, i ≤ ms.length ∧ lookI f (b ++ (framesI g ls.length ms).take j) = some (g, ls ++ ms.take i) := by
  obtain ⟨i, t, h1, h2, h3, -, -⟩ := frames_take g ms ls.length j hm
  refine ⟨i, h1, ?_⟩
  rw [h2, ← List.append_assoc]
  refine look_tail (h.app (ms := ms.take i)) (hr.app (hm.take i)) hg hf (by simp; omega) t ?_
  rw [← h3]; congr 1; simp; omega
/-- a beginning of what a Compact writes -/
theorem look_comp {f g : Int} {ls : List (List Int)} (hr : RecOk ls) (hg : 1 ≤ g ∧ g ≤ 4611686018427387904) (hf : g % 2 = f) (hl : ls.length ≤ 1000000000) (j : Nat) :
    (j < 44 + sizeI ls → lookI f ((headI g ls.length ++ framesI g 0 ls).take j) = none) ∧ (44 + sizeI ls ≤ j → lookI f ((headI g ls.length ++ framesI g 0 ls).take j) = some (g, ls)) := by
  have hlen : (headI g ls.length ++ framesI g 0 ls).length = 44 + sizeI ls := by rw [List.length_append, headI_len, framesI_len]
  refine ⟨fun h => ?_, fun h => ?_⟩
  · by_cases h44 : j < 44
    · exact look_short f (by rw [List.length_take]; omega)
    · obtain ⟨i, t, h1, h2, h3, -, h5⟩ := frames_take g ls 0 (j - 44) hr
      have h6 := h5 (by omega)
      rw [List.take_append, headI_len, List.take_of_length_le (by rw [headI_len]; omega), h2, look_head f g ls.length _ hg hf (by omega)]
      have hw : wholeI g (framesI g 0 (ls.take i) ++ t) = ls.take i := whole_frames g (ls.take i) 0 t (hr.take i) (by rw [← h3]; congr 1; simp; omega)
      rw [hw, if_pos (by simp; omega)]
  · rw [List.take_of_length_le (by omega)]
    exact look_good ⟨ls.length, Nat.le_refl _, rfl⟩ hr hg hf hl
end Go.Proofs.YtfohemgfiidokaaGreatDoor
