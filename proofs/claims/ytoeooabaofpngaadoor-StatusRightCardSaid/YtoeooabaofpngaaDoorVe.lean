/- A history in one word. -/
import Derived.Test.YtoeooabaofpngaaDoorVd
import Derived.Lib.ConvBytes
import Derived.Lib.SmallJoins
namespace Go.Proofs.YtoeooabaofpngaaDoor
open Go.RowKit Go.Sort
attribute [local go_sem ↓] Go.wp_at_zero Go.wp_at_succ

/-- entries that may be read -/
def RdE (w : World) (v : Value) (l : List En) : Prop :=
  (v = .slice none 0 0 ∧ l = []) ∨ ∃ a g o cap, v = .slice (some a) l.length cap ∧ l.length ≤ cap ∧ (0 < l.length → a = ⟨g, o, none⟩ ∧ g < w.heap.size) ∧ ∀ j x, l[j]? = some x → w.rangeAt g (o + j * 33) (enV x)
theorem RdE.keep {w w' : World} {v : Value} {l : List En} (h : RdE w v l) (hb : Below w.heap.size w w') : RdE w' v l := by
  rcases h with h | ⟨a, g, o, cap, h1, h2, h3, h4⟩
  · exact .inl h
  · refine .inr ⟨a, g, o, cap, h1, h2, fun h => ⟨(h3 h).1, Nat.lt_of_lt_of_le (h3 h).2 hb.size⟩, fun j x hj => ?_⟩
    have hlen : 0 < l.length := by
      rcases Nat.eq_zero_or_pos l.length with h | h
      · rw [List.length_eq_zero_iff.1 h] at hj; simp at hj
      · exact h
    exact range_call' (h4 j x hj) (h3 hlen).2 hb
theorem RdE.form {w : World} {v : Value} {l : List En} (h : RdE w v l) : ∃ p cap, v = .slice p l.length cap := by
  rcases h with ⟨rfl, rfl⟩ | ⟨a, g, o, cap, rfl, _⟩
  · exact ⟨_, _, rfl⟩
  · exact ⟨_, _, rfl⟩
theorem RdE.some {w : World} {v : Value} {l : List En} (h : RdE w v l) (hn : 0 < l.length) : ∃ g o cap, v = .slice (some ⟨g, o, none⟩) l.length cap ∧ l.length ≤ cap ∧ g < w.heap.size ∧ ∀ j x, l[j]? = some x → w.rangeAt g (o + j * 33) (enV x) := by
  rcases h with ⟨rfl, rfl⟩ | ⟨a, g, o, cap, rfl, h2, h3, h4⟩
  · simp at hn
  · obtain ⟨rfl, h5⟩ := h3 hn
    exact ⟨g, o, cap, rfl, h2, h5, h4⟩
/-- a string's bytes in a row of their own -/
theorem str_bytes (w : World) (xs : List Int) (hb : Bytes xs) : ∃ cap W1, (convert 9 31 (.string (strOfNums xs))).run Tryd.prog w = .ok (.slice (some ⟨w.heap.size, 0, none⟩) xs.length cap) W1 ∧ RdB W1 (.slice (some ⟨w.heap.size, 0, none⟩) xs.length cap) xs ∧ Below w.heap.size w W1 := by
  have hconv := Lib.run_convert_string_bytes (P := Tryd.prog) w 9 31 5 (strOfNums xs) Tryd.underlying9 Tryd.underlying31 Tryd.underlying5
  have hbelow := Go.Joins.below_bytesWorld w.heap.size w 5 (strOfNums xs) (Nat.le_refl _)
  rw [strOfNums_size] at hconv
  refine ⟨_, _, hconv, .inr ⟨_, w.heap.size, 0, _, rfl, ?_, fun _ => rfl, fun j hj => ?_⟩, hbelow⟩
  · have := grownCap_ge w xs.length 0 5
    rw [← strOfNums_size xs] at this
    rw [strOfNums_size] at this; exact this
  · rw [Nat.zero_add, Lib.bytesWorld_cell w 5 (strOfNums xs) j (by rw [strOfNums_size]; exact hj)]
    have hx := hb.at j hj
    have e : xs[j]?.getD 0 = xs[j] := by rw [List.getElem?_eq_getElem hj]; rfl
    rw [e] at hx ⊢
    simp only [strOfNums, List.getD_eq_getElem?_getD, List.getElem?_map, List.getElem?_eq_getElem hj, Option.map_some, Option.getD_some, UInt8.toNat_ofNat']
    congr 2; omega
theorem zero_entry : ∃ vs : List Value, vs.length = 33 ∧ ∀ w, (zeroValue 29).run Tryd.prog w = .ok (.agg vs.toArray) w :=
  ⟨Value.int .i64 0 :: (List.replicate 32 (0 : Int)).map (Value.int .u8), by simp, fun w => by kernel_rfl⟩
theorem u_entry : ∃ fs, Tryd.prog.underlying 29 = some (.struct fs) := ⟨_, Tryd.underlying29⟩
theorem infoEn (n : Nat) (h : n = 33) : (Tryd.prog.info? 29).map (·.size) = some n := by rw [h]; kernel_rfl
theorem enV_len (x : En) (o : x.Ok) : (enV x).length = 33 := by simp [enV, o.l]
theorem enV_one (x : En) : ∀ v ∈ (enV x).toArray.toList, v.oneCell' = true := by
  intro v hv
  simp only [enV, List.mem_cons, List.mem_map] at hv
  rcases hv with rfl | ⟨y, _, rfl⟩ <;> rfl
theorem size_sub (xs : List Int) : (strOfNums xs).size = xs.length := strOfNums_size xs
set_option maxRecDepth 100000 in
set_option maxHeartbeats 4000000 in
theorem of_c (v : Value) (l : List En) (w : World) (h : RdE w v l) (ok : EnsOk l) (hl : l.length ≤ 10000) (hk : KTab w) (hp : PTab w) :
    Calls Tryd.prog 7 #[v] w fun e w' => e = .returned (.string (strOfNums (ofF l))) ∧ Below w.heap.size w w' := by
  by_cases hn : 0 < l.length
  case neg =>
    have : l = [] := List.length_eq_zero_iff.1 (by omega)
    subst this
    obtain ⟨p, cap, rfl⟩ := h.form
    go_enter Tryd.func7, Tryd.ntmps7
    go_wp2_with fail
    go_ret
    exact ⟨rfl, Below.refl _ _⟩
  obtain ⟨g, o, cap, rfl, hcap, hg, hcell⟩ := h.some hn
  have hne : l ≠ [] := by intro e; subst e; simp at hn
  have HOF := Lib.hid (ofF_ne l hne)
  have hln : ((l.length : Int) == 0) = false := by simp; omega
  have HC := Lib.hid hcell
  obtain ⟨zs, hzl, hz⟩ := zero_entry
  have hfr := Lib.hid (And.intro (Lib.fresh_isBuilder 40 5 w) (bel_alloc (Below.refl _ w) (.cells #[.pointer none, .slice none 0 0] 40)))
  clear hcell h hne
  have HOK := Lib.hid ok
  have htl := txF_len l ok
  have htb := Lib.hid (txF_bytes l ok)
  clear ok
  go_enter Tryd.func7, Tryd.ntmps7
  go_wp2_with fail
  go_loopw [12] (fun c wr => ∃ k : Nat, k ≤ l.length ∧ c = .int .i64 k ∧ Lib.IsBuilder 40 5 w.heap.size w.heap.size (u8s (txF (l.take k))) wr ∧ Below w.heap.size w wr) (fun c _ => l.length - (intOf c).toNat)
  case atStart => exact ⟨0, by omega, rfl, by simpa [txF, u8s] using hfr.out.1, hfr.out.2⟩
  case round =>
    clear hfr
    obtain ⟨k, hk', rfl, hu, hB⟩ := hrel
    by_cases hlt : k < l.length
    · obtain ⟨x, hx⟩ : ∃ x, l[k]? = some x := ⟨_, List.getElem?_eq_getElem hlt⟩
      have ox : x.Ok := HOK.out x (List.mem_of_getElem? hx)
      have hr := range_call' (HC.out k x hx) hg hB
      have hsn : txF (l.take (k + 1)) = txF (l.take k) ++ enT x := by rw [List.take_add_one, hx]; exact txF_snoc _ _
      have hlen : (txF (l.take k)).length ≤ 860000 := by
        have := txF_len (l.take k) (fun y hy => HOK.out y (List.mem_of_mem_take hy))
        have h2 := List.length_take_le k l
        omega
      have hkt : (k : Int) < (l.length : Int) := by omega
      have hBs := hB.size
      have hpt := hp.call hB
      obtain ⟨ev, hev⟩ : ∃ ev, enV x = ev := ⟨_, rfl⟩
      have hev33 : ev.length = 33 := by rw [← hev]; exact enV_len x ox
      have hev1 := enV_one x
      have ke : ∀ W, PTab W → Lib.IsBuilder 40 5 w.heap.size w.heap.size (u8s (txF (l.take k))) W → w.heap.size ≤ W.heap.size → Calls Tryd.prog 15 #[.pointer (some ⟨w.heap.size, 0, none⟩), .agg (enV x).toArray] W fun e w' => e = .returned (.tuple #[]) ∧ Lib.IsBuilder 40 5 w.heap.size w.heap.size (u8s (txF (l.take k) ++ enT x)) w' ∧ Below w.heap.size W w' := fun W h1 h2 h3 => entry_c x ox _ _ _ W h1 h2 (by omega) h3
      rw [hev] at hr hev1 ke
      have HKE := Lib.hid ke; have HI := Lib.hid (infoEn ev.length hev33); have HI2 := Lib.hid (infoEn ev.toArray.size (by simpa using hev33)); have HSN := Lib.hid hsn; have H1 := Lib.hid hev1; have HEV := Lib.hid hev33; have HZL := Lib.hid hzl
      have hB0 := Lib.hid (And.intro hu (And.intro hB hBs))
      clear ke hsn hev1 hev33 hx ox hev hlen hu hB hBs
      go_upto_region 7 with (first
        | (refine wpList_load_mid rfl 29 _ rfl g (o + k * 33) rfl ev _ hr Tryd.underlying29 rfl HI.out ?_)
        | (refine wpList_store_row rfl 29 _ _ rfl _ rfl _ rfl 29 _ (heap_alloc_new _ _) HI2.out (by simp [HZL.out, HEV.out]) H1.out ?_))
      have hrow := setRow_heap (wr.alloc (.cells zs.toArray 29)) wr.heap.size zs.toArray ev.toArray 29 (0, 0) (heap_alloc_new _ _)
      have hbr : Below wr.heap.size wr ((wr.alloc (.cells zs.toArray 29)).setRow wr.heap.size ev.toArray) := _root_.Go.below_setRow (bel_alloc (Below.refl _ _) _) (Nat.le_refl _) _
      have hu2 := isb_keep hB0.out.1 hbr
      have hpt2 := (hpt.call hbr)
      have hB2 := hB0.out.2.1.trans (hbr.mono hB0.out.2.2)
      have hke := HKE.out _ hpt2 hu2 hB2.size
      clear hpt2 hu2 HKE hr
      simp only [Act.put]
      go_wp2_with (first
        | (refine wpList_load_row rfl 29 _ rfl _ rfl 29 _ _ _ hrow Tryd.underlying29 rfl HI2.out ?_)
        | (go_at_call 15; (with_reducible refine hke.mono ?_); rintro e w2 ⟨rfl, hu3, hb3⟩))
      rw [← HSN.out] at hu3
      go_roundw
      case rel => exact ⟨k + 1, by omega, by go_num, hu3, hB2.trans hb3⟩
      case measure => simp [intOf]; omega
    · obtain rfl : k = l.length := by omega
      rw [List.take_length] at hu
      have hbb := htb.out
      have hpos : txF l ≠ [] := by
        rcases l with _ | ⟨x, l⟩
        · simp at hn
        · intro e
          have : enT x ++ txF l = [] := e
          exact enT_ne x (List.append_eq_nil_iff.1 this).1
      rw [u8s_byteCells _ hbb] at hu
      have ks := pstring_c _ _ _ wr hu (by simpa using hpos)
      have HU := Lib.hid (And.intro hB (hk.call hB))
      have hx : ∀ W, ∃ cap W1, (convert 9 31 (.string (strOfNums (txF l)))).run Tryd.prog W = .ok (.slice (some ⟨W.heap.size, 0, none⟩) (txF l).length cap) W1 ∧ RdB W1 (.slice (some ⟨W.heap.size, 0, none⟩) (txF l).length cap) (txF l) ∧ Below W.heap.size W W1 := fun W => str_bytes W _ hbb
      have HX := Lib.hid hx
      have ksha : ∀ v W, RdB W v (txF l) → KTab W → Calls Tryd.prog 16 #[v] W fun e w' => e = .returned (.agg ((shaF (txF l)).map (Value.int .u8)).toArray) ∧ Below W.heap.size W w' := fun v W h1 h2 => sha_c v _ W h1 hbb (by omega) h2
      have KSHA := Lib.hid ksha
      have hsl := shaF_len (txF l)
      have hsb := Lib.hid (shaF_bytes (txF l))
      obtain ⟨ss, hss⟩ : ∃ ss, shaF (txF l) = ss := ⟨_, rfl⟩
      rw [hss] at hsl hsb KSHA HOF
      clear hx ksha hss hu hpos hbb hB
      have HSL := Lib.hid (infoEn 33 rfl); have HI3 := Lib.hid (info27 (ss.map (Value.int .u8)).toArray.size (by simpa using hsl)); have H32 := Lib.hid hsl
      have H13 := Lib.hid (oneCell_map .u8 ss)
      have hsr : (⟨(List.map (fun n => UInt8.ofNat n.toNat) (txF l)).toArray⟩ : ByteArray) = strOfNums (txF l) := rfl
      have kx : ∀ W g, RowT 27 .u8 g ss W → Calls Tryd.prog 18 #[.slice (some ⟨g, 0, none⟩) 32 32] W fun e w' => e = .returned (.string (strOfNums (hexI ss))) ∧ Below W.heap.size W w' := fun W g hr => by
        have := hex_c (.slice (some ⟨g, 0, none⟩) ss.length 32) ss W (rdb_of_row hr (by rw [H32.out]; omega)) hsb.out (by rw [H32.out]; omega)
        rw [H32.out] at this; exact this
      have KX := Lib.hid kx
      clear kx hsl
      rw [hsr] at ks
      go_upto_region 10 with (first
        | (go_at_call 17; (with_reducible refine ks.mono ?_); rintro e w2 ⟨rfl, hb2⟩; obtain ⟨cap2, W1, hcv, hrd, hbw⟩ := HX.out w2)
        | (go_at_call 16; (with_reducible refine (KSHA.out _ _ hrd (hk.call (bel_call (HU.out.1.trans hb2) hbw))).mono ?_); rintro e w3 ⟨rfl, hb3⟩; have hB3 := bel_call (bel_call (HU.out.1.trans hb2) hbw) hb3)
        | (refine wpList_store_row rfl 27 _ _ rfl _ rfl _ rfl 27 _ (heap_alloc_new _ _) HI3.out (by simp [H32.out]) H13.out ?_))
      refine wp_gen (fun W => RowT 27 .u8 w3.heap.size ss W ∧ Below w.heap.size w W) ⟨setRow_heap _ _ _ _ 27 _ (heap_alloc_new _ _), _root_.Go.below_setRow (bel_alloc hB3 _) hB3.size _⟩ ?_
      rintro W ⟨hR, hBW⟩
      simp only [Act.put]
      go_wp2_with (go_at_call 18; (with_reducible refine (KX.out _ _ hR).mono ?_); rintro e w4 ⟨rfl, hb4⟩)
      go_ret
      exact ⟨by rw [HOF.out]; rfl, bel_call hBW hb4⟩
set_option maxRecDepth 100000 in
set_option maxHeartbeats 4000000 in
/-- the document's text -/
theorem tx_c (v : Value) (l : List En) (w : World) (h : RdE w v l) (ok : EnsOk l) (hl : l.length ≤ 10000) :
    Calls Tryd.prog 11 #[v] w fun e w' => e = .returned (.string (strOfNums (txF l))) ∧ Below w.heap.size w w' := by
  obtain ⟨p0, cap0, rfl⟩ := h.form
  have H := Lib.hid h
  have HOK := Lib.hid ok
  clear h ok
  have h58 : strOfNums [58] = { data := #[58] } := rfl
  have H58 := Lib.hid h58
  clear h58
  go_enter Tryd.func11, Tryd.ntmps11
  go_wp2_with fail
  go_loopw [3, 4] (fun s i wr => ∃ k : Nat, k ≤ l.length ∧ i = .int .i64 k ∧ s = .string (strOfNums (txF (l.take k))) ∧ Below w.heap.size w wr) (fun _ i _ => l.length - (intOf i).toNat)
  case atStart => exact ⟨0, by omega, rfl, rfl, Below.refl _ _⟩
  case round =>
    obtain ⟨k, hk', rfl, rfl, hB⟩ := hrel
    by_cases hlt : k < l.length
    · obtain ⟨x, hx⟩ : ∃ x, l[k]? = some x := ⟨_, List.getElem?_eq_getElem hlt⟩
      have ox : x.Ok := HOK.out x (List.mem_of_getElem? hx)
      obtain ⟨g, o, cap, hform, hcap, hg, hcell⟩ := H.out.some (by omega)
      injection hform with hf1 _ hf2
      subst hf1; subst hf2
      have hr := range_call' (hcell k x hx) hg hB
      have hg2 := Nat.lt_of_lt_of_le hg hB.size
      have c0 : wr.cell? ⟨g, o + k * 33, none⟩ = some (.int .i64 x.h) := hr 0 _ rfl
      have cr : wr.rangeAt g (o + k * 33 + 1) (x.t.map (Value.int .u8)) := fun j v hv => by
        have := hr (j + 1) v (by simpa [enV] using hv)
        rwa [show o + k * 33 + 1 + j = o + k * 33 + (j + 1) by omega]
      have hsn : txF (l.take (k + 1)) = txF (l.take k) ++ enT x := by rw [List.take_add_one, hx]; exact txF_snoc _ _
      have hlen : (txF (l.take k)).length ≤ 860000 := by
        have := txF_len (l.take k) (fun y hy => HOK.out y (List.mem_of_mem_take hy))
        have h2 := List.length_take_le k l
        omega
      have kt : ∀ W, Calls Tryd.prog 13 #[.agg (x.t.map (Value.int .u8)).toArray] W fun e w' => e = .returned (.string (strOfNums (hexI x.t.reverse))) ∧ Below W.heap.size W w' := fun W => rturned_c x.t W ox.l ox.b
      have ki := digits_c x.h ox.lo ox.hi
      have hiH := info27 (x.t.map (Value.int .u8)).length (by simp [ox.l])
      have l1 : (hexI x.t.reverse).length = 64 := by simp [hexI_len, ox.l]
      have l2 := itoI_len x.h ox.lo ox.hi
      unfold enT at hsn
      generalize hexI x.t.reverse = s1 at *
      generalize itoI x.h = s2 at *
      generalize x.t.map (Value.int .u8) = tv at *
      generalize x.h = hh at *
      generalize txF (l.take k) = A at *
      have a1 := str_add A s1 (by omega)
      have a2 : ∀ w, (Op.stringOp .add (strOfNums (A ++ s1)) { data := #[58] }).run Tryd.prog w = .ok (.string (strOfNums (A ++ s1 ++ [58]))) w := str_add (A ++ s1) [58] (by simp; omega)
      have a3 := str_add (A ++ s1 ++ [58]) s2 (by simp; omega)
      have a4 : ∀ w, (Op.stringOp .add (strOfNums (A ++ s1 ++ [58] ++ s2)) { data := #[58] }).run Tryd.prog w = .ok (.string (strOfNums (A ++ s1 ++ [58] ++ s2 ++ [58]))) w := str_add (A ++ s1 ++ [58] ++ s2) [58] (by simp; omega)
      have hsn2 : txF (l.take (k + 1)) = A ++ s1 ++ [58] ++ s2 ++ [58] := by rw [hsn]; simp
      have HSN := Lib.hid hsn2
      clear hsn hsn2
      generalize A ++ s1 ++ [58] ++ s2 ++ [58] = A4 at *
      generalize A ++ s1 ++ [58] ++ s2 = A3 at *
      generalize A ++ s1 ++ [58] = A2 at *
      generalize A ++ s1 = A1 at *
      have hkt : (k : Int) < (l.length : Int) := by omega
      have hk0 : (0 : Int) ≤ (k : Int) := by omega
      have hul := Tryd.underlying27
      have hD : Below wr.heap.size wr wr.drew := below_drewN wr 1
      have HK := Lib.hid (fun U (h : Below wr.heap.size wr U) => (And.intro (range_call' cr hg2 h) (by rw [h.cell hg2]; exact c0) : U.rangeAt g (o + k * 33 + 1) tv ∧ U.cell? ⟨g, o + k * 33, none⟩ = some (.int .i64 hh)))
      have HB := Lib.hid hB
      clear hx ox hcell hr hlen l1 l2 hB
      go_wp2_with fail
      go_region_held3 (fun w' => w'.rangeAt g (o + k * 33 + 1) tv ∧ w'.cell? ⟨g, o + k * 33, none⟩ = some (.int .i64 hh)) (first | exact HK.out _ hD | exact HK.out _ (bel_call hD hb2) | exact HK.out _ (bel_call hD hb3) | exact HK.out _ (bel_call (bel_call hD hb2) hb3) | exact HK.out _ (bel_call (bel_call hD hb3) hb2) | go_keep)
        (first
          | (go_at_call 13; (with_reducible refine (kt _).mono ?_); rintro e w2 ⟨rfl, hb2⟩)
          | (go_at_call 19; (with_reducible refine (ki _).mono ?_); rintro e w3 ⟨rfl, hb3⟩))
      all_goals
        go_wp2_with fail
        go_roundw
        case rel => exact ⟨k + 1, by omega, by go_num, by rw [HSN.out], (by first | exact bel_call HB.out (bel_call (bel_call hD hb2) hb3) | exact bel_call HB.out (bel_call (bel_call hD hb3) hb2))⟩
        case measure => simp [intOf]; omega
    · obtain rfl : k = l.length := by omega
      rw [List.take_length]
      go_wp2_with fail
      go_ret
      exact ⟨rfl, hB⟩
end Go.Proofs.YtoeooabaofpngaaDoor
