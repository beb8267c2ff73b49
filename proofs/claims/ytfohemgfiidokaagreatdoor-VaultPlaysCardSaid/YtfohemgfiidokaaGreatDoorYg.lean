/- Strings as bytes; bytes.Equal, slices.Clone; whether a record is too long. -/
import Derived.Test.YtfohemgfiidokaaGreatDoorYf
import Derived.Laws.BytesArg
namespace Go.Proofs.YtfohemgfiidokaaGreatDoor
open Go.RowKit Go.Sort

theorem str_app (a b : List Int) : strOfNums a ++ strOfNums b = strOfNums (a ++ b) := by
  apply ByteArray.ext
  simp [strOfNums]
/-- a string's bytes -/
def numsOf (s : ByteArray) : List Int := s.data.toList.map fun b => (b.toNat : Int)
theorem numsOf_len (s : ByteArray) : (numsOf s).length = s.size := by rw [numsOf, List.length_map, Array.length_toList]; rfl
theorem numsOf_bytes (s : ByteArray) : Bytes (numsOf s) := by
  intro b hb
  obtain ⟨x, _, rfl⟩ := List.mem_map.1 hb
  have := x.toNat_lt
  omega
theorem str_nums (s : ByteArray) : strOfNums (numsOf s) = s := by
  unfold strOfNums numsOf
  rw [List.map_map]
  have : ((fun n : Int => UInt8.ofNat n.toNat) ∘ fun b : UInt8 => (b.toNat : Int)) = id := by
    funext b
    show UInt8.ofNat ((b.toNat : Int)).toNat = b
    rw [Int.toNat_natCast]; exact UInt8.ofNat_toNat
  rw [this, List.map_id]
theorem nums_str (l : List Int) (h : Bytes l) : numsOf (strOfNums l) = l := by
  unfold numsOf
  rw [strOfNums_data, List.map_map]
  have : ∀ x ∈ l, ((fun b : UInt8 => (b.toNat : Int)) ∘ fun n : Int => UInt8.ofNat n.toNat) x = x := fun x hx => by
    have := h x hx
    show (((UInt8.ofNat x.toNat).toNat : Nat) : Int) = x
    rw [UInt8.toNat_ofNat']; omega
  rw [List.map_congr_left this, List.map_id']
theorem str_inj {a b : List Int} (ha : Bytes a) (hb : Bytes b) : strOfNums a = strOfNums b ↔ a = b :=
  ⟨fun h => by rw [← nums_str a ha, ← nums_str b hb, h], fun h => by rw [h]⟩
theorem nums_inj {a b : ByteArray} : numsOf a = numsOf b ↔ a = b :=
  ⟨fun h => by rw [← str_nums a, ← str_nums b, h], fun h => by rw [h]⟩
theorem rd_text {w : World} {v : Value} {xs : List Int} (h : RdB w v xs) : (convert 40 9 v).run Tryz.prog w = .ok (.string (strOfNums xs)) w := by
  rcases h with ⟨h1, h2⟩ | ⟨a, g, o, cap, h1, h2, h3, h4⟩
  · subst h2
    rw [h1]
    exact run_convert_bytes_nil w 40 5 Tryz.underlying40 Tryz.underlying5 0 0 9 Tryz.underlying9
  · rw [h1]
    by_cases h0 : 0 < xs.length
    · rw [h3 h0]
      exact run_convert_bytes_arg w 40 5 Tryz.underlying40 Tryz.underlying5 g o xs.length cap xs rfl (fun i hi => by rw [h4 i hi]; simp) 9 Tryz.underlying9
    · obtain ⟨g2, o2, sp⟩ := a
      have hx : xs = [] := List.length_eq_zero_iff.1 (by omega)
      subst hx
      rcases sp with _ | sp
      · exact run_convert_bytes_arg w 40 5 Tryz.underlying40 Tryz.underlying5 g2 o2 0 cap [] rfl (fun i hi => by omega) 9 Tryz.underlying9
      · rw [run_convert_bytes_string w 40 9 5 _ _ _ Tryz.underlying40 Tryz.underlying5 Tryz.underlying9]
        simp [Conv.bytesToString, loadCells, strOfNums]
        rfl
theorem str_add (A B : List Int) (h : A.length + B.length ≤ 9223372036854775807) (w : World) : (Op.stringOp .add (strOfNums A) (strOfNums B)).run Tryz.prog w = .ok (.string (strOfNums (A ++ B))) w := by
  rw [run_string_add_if, if_neg (by rw [strOfNums_size, strOfNums_size]; omega), str_app]
theorem str_beq (a b : List Int) (ha : Bytes a) (hb : Bytes b) (r : Bool) (h : r = true ↔ a = b) : ((strOfNums a).toList == (strOfNums b).toList) = r ∧ (strOfNums a == strOfNums b) = r := by
  have h2 : ((strOfNums a).toList == (strOfNums b).toList) = r := by
    rw [Bool.eq_iff_iff, h, beq_iff_eq, ByteArray.toList_eq, ByteArray.toList_eq]
    constructor
    · intro e
      exact (str_inj ha hb).1 (ByteArray.ext (Array.toList_inj.1 e))
    · rintro rfl; rfl
  exact ⟨h2, by rw [beq_toListBytes, h2]⟩
set_option maxRecDepth 100000 in
theorem equal_c (v u : Value) (xs ys : List Int) (w : World) (hv : RdB w v xs) (hu : RdB w u ys) (hx : Bytes xs) (hy : Bytes ys) :
    Calls Tryz.prog 68 #[v, u] w fun e w' => e = .returned (.bool (xs == ys)) ∧ w' = w := by
  have h1 := rd_text hv
  have h2 := rd_text hu
  have hbq := str_beq xs ys hx hy (xs == ys) (by simp)
  generalize (xs == ys) = r at *
  generalize strOfNums xs = a at *
  generalize strOfNums ys = b at *
  go_enter Tryz.func68, Tryz.ntmps68
  go_wp2
  go_ret
  exact ⟨by first | rfl | rw [← hbq.1] | rw [← hbq.2], rfl⟩

set_option maxRecDepth 100000 in
theorem sclone_c (v : Value) (xs : List Int) (w : World) (h : RdB w v xs) (hl : xs.length ≤ 1000000000) :
    Calls Tryz.prog 96 #[v] w fun e w' => ∃ v', e = .returned v' ∧ RowO w' w.heap.size v' xs ∧ Below w.heap.size w w' := by
  obtain ⟨i0, hi, hz0, hz1, hz2⟩ := info_parts Tryz.info5
  have qT : ∀ (w : World) (a : Option Addr) (n c n' c' : Nat), (binOp .eql 40 (.slice a n c) (.slice none n' c')).run Tryz.prog w = .ok (.bool a.isNone) w := fun w a n c n' c' => Lib.run_eql_slice_nil w 40 5 a n c n' c' Tryz.underlying40
  rcases h with ⟨rfl, rfl⟩ | ⟨a, g, o, cap, rfl, hc, ha, hcell⟩
  · go_enter Tryz.func96, Tryz.ntmps96
    go_wp2
    go_ret
    exact ⟨_, rfl, World.ownsRow_nil _ _ _ _, Below.refl _ _⟩
  · have hown0 : (w.alloc (.cells #[] 5)).ownsRow w.heap.size 5 1 (.slice (some ⟨w.heap.size, 0, none⟩) 0 0) 0 [] := ⟨rfl, .inr ⟨_, 0, #[], rfl, Nat.le_refl _, heap_alloc_new _ _, Nat.le_refl _, by unfold maxLen; omega, rfl, rfl⟩⟩
    have hnew := rd_cell (w := w.alloc (.cells #[] 5)) (xs := xs) ha (fun j hj => by rw [(bel_alloc (Below.refl _ w) _).cell (block_lt_of_cell (hcell j hj))]; exact hcell j hj) xs.length
    rw [List.take_length] at hnew
    have HN := Lib.hid hnew
    clear hnew hcell ha
    go_enter Tryz.func96, Tryz.ntmps96
    go_wp2_with (at_builtin; refine wpList_append_own _ rfl _ _ 40 rfl w.heap.size 5 i0 (.int .u8 0) 1 1 Tryz.underlying40 hi hz0 hz1 hz2 rfl (by decide) _ _ _ rfl hown0 a xs.length cap (u8s xs) rfl (by simp [u8s]) HN.out (u8s_one xs) ?c3 ?c4 ?c5 ?_)
    case c3 => unfold maxLen; omega
    case c4 => omega
    try case c5 => simp
    intro v' w1 hown' hgrow hnn
    have hb0 := grown_below hown0 (bel_alloc (Below.refl _ w) _) (by simp) hgrow
    clear hgrow hown0 hnn
    go_wp2
    go_ret
    exact ⟨_, rfl, hown', hb0⟩


theorem long_c (v : Value) (xs : List Int) (w : World) (hv : RdB w v xs) :
    Calls Tryz.prog 79 #[v] w fun e w' => e = .returned (.bool (decide (32768 < xs.length))) ∧ w' = w := by
  obtain ⟨p, cp, rfl, hcp⟩ := hv.shape
  go_enter Tryz.func79, Tryz.ntmps79
  go_wp2
  go_ret
  exact ⟨congrArg (fun b : Bool => Ending.returned (.bool b)) (by rw [decide_eq_decide]; omega), rfl⟩

/-- is one of the records too long? -/
def lngI (ls : List (List Int)) : Bool := ls.any fun r => decide (32768 < r.length)
theorem lngI_false {ls : List (List Int)} : lngI ls = false ↔ ∀ r ∈ ls, r.length ≤ 32768 := by
  simp [lngI]
theorem lngI_at {ls : List (List Int)} (k : Nat) (hk : k < ls.length) (h : 32768 < (ls[k]?.getD []).length) : lngI ls = true := by
  rw [List.getElem?_eq_getElem hk] at h
  exact List.any_eq_true.2 ⟨_, List.getElem_mem hk, by simpa using h⟩

set_option maxRecDepth 100000 in
theorem index_c (v : Value) (ls : List (List Int)) (w : World) (hv : RdL w v ls) (hn : ls.length ≤ 1000000) :
    Calls Tryz.prog 97 #[v, .func (.func 79) #[] #[]] w fun e w' => ∃ r, e = .returned (.int .i64 r) ∧ (0 ≤ r ↔ lngI ls = true) ∧ w' = w := by
  obtain ⟨a, cap, rfl, hcap, hel⟩ := hv.shape
  have HE := Lib.hid hel
  clear hel hv
  go_enter Tryz.func97, Tryz.ntmps97
  go_upto_region 2 with fail
  go_loopw [8] (fun i wr => ∃ k : Nat, k ≤ ls.length ∧ i = .int .i64 k ∧ (∀ j, j < k → (ls[j]?.getD []).length ≤ 32768) ∧ w = wr) (fun i _ => ls.length - (intOf i).toNat)
  case atStart => exact ⟨0, by omega, rfl, fun j hj => by omega, rfl⟩
  case round =>
    obtain ⟨k, hk, rfl, hno, rfl⟩ := hrel
    have HN := Lib.hid hno
    clear hno
    by_cases hlt : k < ls.length
    · obtain ⟨g, o, u, rfl, hcell, hrd⟩ := HE.out k hlt
      have hkl : (k : Int) < ls.length := by omega
      by_cases hx : 32768 < (ls[k]?.getD []).length
      · have hlc := long_c u _ w hrd
        rw [decide_eq_true hx] at hlc
        have hL := lngI_at k hlt hx
        clear hx hrd
        go_wp2_with (go_at_call 79; with_reducible refine hlc.mono ?_; rintro e w1 ⟨rfl, rfl⟩)
        go_ret
        exact ⟨_, rfl, ⟨fun _ => hL, fun _ => by omega⟩, rfl⟩
      · have hlc := long_c u _ w hrd
        rw [decide_eq_false hx] at hlc
        have HX := Lib.hid hx
        clear hx hrd
        go_wp2_with (go_at_call 79; with_reducible refine hlc.mono ?_; rintro e w1 ⟨rfl, rfl⟩)
        exact ⟨⟨k + 1, by omega, by go_num, fun j hj => by
          by_cases e : j = k
          · subst e; have := HX.out; omega
          · exact HN.out j (by omega), trivial⟩, by simp [intOf]; omega⟩
    · have hkl : ¬ (k : Int) < ls.length := by omega
      have hL : lngI ls = false := lngI_false.2 fun r hr => by
        obtain ⟨j, hj, rfl⟩ := List.getElem_of_mem hr
        have := HN.out j (by omega)
        rwa [List.getElem?_eq_getElem hj] at this
      go_wp2
      go_ret
      exact ⟨-1, rfl, by first | omega | simp [hL], rfl⟩
theorem anylong_c (v : Value) (ls : List (List Int)) (w : World) (hv : RdL w v ls) (hn : ls.length ≤ 1000000) :
    Calls Tryz.prog 78 #[v, .func (.func 79) #[] #[]] w fun e w' => e = .returned (.bool (lngI ls)) ∧ w' = w := by
  have hi := index_c v ls w hv hn
  obtain ⟨a, cap, rfl, hcap, hel⟩ := hv.shape
  clear hel hv
  go_enter Tryz.func78, Tryz.ntmps78
  go_wp2_with (go_at_call 97; with_reducible refine hi.mono ?_; rintro e w1 ⟨r, rfl, hr, rfl⟩)
  go_ret
  exact ⟨congrArg (fun b : Bool => Ending.returned (.bool b)) (by first | (rw [Bool.eq_iff_iff]; done) | simp [hr]), rfl⟩

/-- a vault in memory -/
structure Va where
  file : Nat
  gen : Int
  n : Int
  broken : Bool
structure VaAt (w : World) (V D : Nat) (x : Va) : Prop where
  d : w.cell? ⟨V, 0, none⟩ = some (.pointer (some ⟨D, 0, none⟩))
  file : w.cell? ⟨V, 1, none⟩ = some (.int .i64 x.file)
  gen : w.cell? ⟨V, 2, none⟩ = some (.int .u64 x.gen)
  n : w.cell? ⟨V, 3, none⟩ = some (.int .i64 x.n)
  broken : w.cell? ⟨V, 4, none⟩ = some (.bool x.broken)
  fz : ∀ o, w.frozen? ⟨V, o, none⟩ = false
theorem VaAt.lt {w : World} {V D : Nat} {x : Va} (h : VaAt w V D x) : V < w.heap.size := block_lt_of_cell h.d
theorem VaAt.same {w w' : World} {V D : Nat} {x : Va} (h : VaAt w V D x) (hb : w'.heap[V]? = w.heap[V]?) : VaAt w' V D x :=
  ⟨(World.cell?_of_block hb).trans h.d, (World.cell?_of_block hb).trans h.file, (World.cell?_of_block hb).trans h.gen, (World.cell?_of_block hb).trans h.n, (World.cell?_of_block hb).trans h.broken, fun o => (World.frozen?_of_block hb).trans (h.fz o)⟩
theorem VaAt.keep {w w' : World} {V D : Nat} {x : Va} (h : VaAt w V D x) (hb : Below w.heap.size w w') : VaAt w' V D x := h.same (hb.block V h.lt)
theorem VaAt.setBroken {w : World} {V D : Nat} {x : Va} (h : VaAt w V D x) (b : Bool) : VaAt (w.setCell ⟨V, 4, none⟩ (.bool b)) V D { x with broken := b } :=
  ⟨(set_cell (by omega)).trans h.d, (set_cell (by omega)).trans h.file, (set_cell (by omega)).trans h.gen, (set_cell (by omega)).trans h.n, set_same h.broken, fun o => set_frozen.trans (h.fz o)⟩
theorem VaAt.setN {w : World} {V D : Nat} {x : Va} (h : VaAt w V D x) (b : Int) : VaAt (w.setCell ⟨V, 3, none⟩ (.int .i64 b)) V D { x with n := b } :=
  ⟨(set_cell (by omega)).trans h.d, (set_cell (by omega)).trans h.file, (set_cell (by omega)).trans h.gen, set_same h.n, (set_cell (by omega)).trans h.broken, fun o => set_frozen.trans (h.fz o)⟩
theorem VaAt.setGen {w : World} {V D : Nat} {x : Va} (h : VaAt w V D x) (b : Int) : VaAt (w.setCell ⟨V, 2, none⟩ (.int .u64 b)) V D { x with gen := b } :=
  ⟨(set_cell (by omega)).trans h.d, (set_cell (by omega)).trans h.file, set_same h.gen, (set_cell (by omega)).trans h.n, (set_cell (by omega)).trans h.broken, fun o => set_frozen.trans (h.fz o)⟩
theorem VaAt.setFile {w : World} {V D : Nat} {x : Va} (h : VaAt w V D x) (b : Nat) : VaAt (w.setCell ⟨V, 1, none⟩ (.int .i64 b)) V D { x with file := b } :=
  ⟨(set_cell (by omega)).trans h.d, set_same h.file, (set_cell (by omega)).trans h.gen, (set_cell (by omega)).trans h.n, (set_cell (by omega)).trans h.broken, fun o => set_frozen.trans (h.fz o)⟩

theorem gen_c {w : World} {V D : Nat} {x : Va} (h : VaAt w V D x) : Calls Tryz.prog 12 #[.pointer (some ⟨V, 0, none⟩)] w fun e w' => e = .returned (.int .u64 x.gen) ∧ w' = w := by
  have c := h.gen
  go_enter Tryz.func12, Tryz.ntmps12
  go_wp2
  go_ret
  exact ⟨rfl, rfl⟩
theorem len_c {w : World} {V D : Nat} {x : Va} (h : VaAt w V D x) : Calls Tryz.prog 13 #[.pointer (some ⟨V, 0, none⟩)] w fun e w' => e = .returned (.int .i64 x.n) ∧ w' = w := by
  have c := h.n
  go_enter Tryz.func13, Tryz.ntmps13
  go_wp2
  go_ret
  exact ⟨rfl, rfl⟩
theorem gen_nil (w : World) : Calls Tryz.prog 12 #[.pointer none] w fun e w' => e = .returned (.int .u64 0) ∧ w' = w := by
  go_enter Tryz.func12, Tryz.ntmps12
  go_wp2
  go_ret
  exact ⟨rfl, rfl⟩
theorem len_nil (w : World) : Calls Tryz.prog 13 #[.pointer none] w fun e w' => e = .returned (.int .i64 0) ∧ w' = w := by
  go_enter Tryz.func13, Tryz.ntmps13
  go_wp2
  go_ret
  exact ⟨rfl, rfl⟩
theorem vkept_c {w : World} {V D : Nat} {x : Va} (h : VaAt w V D x) (e0 : Int) : Calls Tryz.prog 39 #[.pointer (some ⟨V, 0, none⟩), .int .i64 e0] w fun e w' => e = .returned (.int .i64 e0) ∧ w' = w.setCell ⟨V, 4, none⟩ (.bool (decide (e0 ≠ 0))) := by
  have c := h.broken
  have z := h.fz 4
  by_cases he : e0 = 0
  · subst he
    go_enter Tryz.func39, Tryz.ntmps39
    go_wp2
    go_ret
    exact ⟨rfl, by simp⟩
  · go_enter Tryz.func39, Tryz.ntmps39
    go_wp2
    go_ret
    exact ⟨rfl, by rw [show (e0 != 0) = decide (e0 ≠ 0) by rw [Bool.eq_iff_iff]; simp]⟩
/-- why records may not be put -/
def vmayv (broken : Bool) (ls : List (List Int)) : Int := if broken then 3 else if lngI ls then 1 else 0
theorem vmay_c {w : World} {V D : Nat} {x : Va} (h : VaAt w V D x) (v : Value) (ls : List (List Int)) (hv : RdL w v ls) (hn : ls.length ≤ 1000000) : Calls Tryz.prog 37 #[.pointer (some ⟨V, 0, none⟩), v] w fun e w' => e = .returned (.int .i64 (vmayv x.broken ls)) ∧ w' = w := by
  have c := h.broken
  have ha := anylong_c v ls w hv hn
  obtain ⟨p, cp, rfl, hcp, -⟩ := hv.shape
  unfold vmayv
  generalize x.broken = b at *
  generalize lngI ls = q at *
  cases b
  · cases q
    · go_enter Tryz.func37, Tryz.ntmps37
      go_wp2_with (go_at_call 78; with_reducible refine ha.mono ?_; rintro e w1 ⟨rfl, rfl⟩)
      go_ret
      exact ⟨rfl, rfl⟩
    · go_enter Tryz.func37, Tryz.ntmps37
      go_wp2_with (go_at_call 78; with_reducible refine ha.mono ?_; rintro e w1 ⟨rfl, rfl⟩)
      go_ret
      exact ⟨rfl, rfl⟩
  · go_enter Tryz.func37, Tryz.ntmps37
    go_wp2
    go_ret
    exact ⟨rfl, rfl⟩
theorem vmay_nil (p : Option Addr) (n cap : Nat) (w : World) : Calls Tryz.prog 37 #[.pointer none, .slice p n cap] w fun e w' => e = .returned (.int .i64 2) ∧ w' = w := by
  go_enter Tryz.func37, Tryz.ntmps37
  go_wp2
  go_ret
  exact ⟨rfl, rfl⟩
theorem add_nil (p : Option Addr) (n cap : Nat) (w : World) : Calls Tryz.prog 14 #[.pointer none, .slice p n cap] w fun e w' => e = .returned (.int .i64 2) ∧ Below w.heap.size w w' := by
  have km := vmay_nil p n cap
  go_enter Tryz.func14, Tryz.ntmps14
  go_wp2_with (go_at_call 37; with_reducible refine (km _).mono ?_; rintro e w1 ⟨rfl, rfl⟩)
  go_ret
  exact ⟨rfl, bel_alloc (bel_alloc (Below.refl _ _) _) _⟩
theorem compact_nil (p : Option Addr) (n cap : Nat) (w : World) : Calls Tryz.prog 20 #[.pointer none, .slice p n cap] w fun e w' => e = .returned (.int .i64 2) ∧ Below w.heap.size w w' := by
  have km := vmay_nil p n cap
  go_enter Tryz.func20, Tryz.ntmps20
  go_wp2_with (go_at_call 37; with_reducible refine (km _).mono ?_; rintro e w1 ⟨rfl, rfl⟩)
  go_ret
  exact ⟨rfl, bel_alloc (bel_alloc (Below.refl _ _) _) _⟩
theorem open_nil (w : World) : Calls Tryz.prog 11 #[.pointer none] w fun e w' => e = .returned (.tuple #[.pointer none, .slice none 0 0, .int .i64 2]) ∧ Below w.heap.size w w' := by
  go_enter Tryz.func11, Tryz.ntmps11
  go_wp2
  go_ret3
  exact ⟨rfl, bel_alloc (Below.refl _ _) _⟩
end Go.Proofs.YtfohemgfiidokaaGreatDoor
