/- The walk of VaultSpoilt. -/
import Derived.Test.YtfohemgfiidokaaDoorNd
namespace Go.Proofs.YtfohemgfiidokaaDoor
open Go.RowKit Go.Sort

theorem size_mem {r : List Int} : ∀ {ls : List (List Int)}, r ∈ ls → r.length + 36 ≤ sizeI ls
  | a :: t, h => by
    rcases List.mem_cons.1 h with rfl | h
    · simp only [sizeI]; omega
    · have := size_mem h; simp only [sizeI]; omega
theorem size_next2 (ls : List (List Int)) (q : Nat) (h : q < ls.length) : sizeI (ls.take (q + 1)) = sizeI (ls.take q) + ((ls[q]?.getD []).length + 36) := by
  rw [show ls.take (q + 1) = ls.take q ++ [ls[q]?.getD []] by rw [List.take_succ_eq_append_getElem h, List.getElem?_eq_getElem h]; rfl, sizeI_append]
  rfl
theorem size_take2 (ls : List (List Int)) (q : Nat) : sizeI (ls.take q) ≤ sizeI ls := by
  have := sizeI_append (ls.take q) (ls.drop q)
  rw [List.take_append_drop] at this
  omega
theorem rd_front {W : World} {g cap : Nat} {S : List Int} (hc : ∀ j, j < S.length → W.cell? ⟨g, j, none⟩ = some (.int .u8 (S[j]?.getD 0))) (k : Nat) (hk : k ≤ S.length) (hcap : S.length ≤ cap) : RdB W (.slice (some ⟨g, 0, none⟩) k cap) (S.take k) := by
  have hl : (S.take k).length = k := by rw [List.length_take]; omega
  refine .inr ⟨_, g, 0, cap, by rw [hl], by rw [hl]; omega, fun _ => rfl, fun j hj => ?_⟩
  rw [hl] at hj
  rw [Nat.zero_add, hc j (by omega), List.getElem?_take_of_lt hj]
theorem RdL.part2 {w : World} {p : Option Addr} {n cap : Nat} {ls : List (List Int)} (h : RdL w (.slice p n cap) ls) (k : Nat) (hk : k ≤ ls.length) : RdL w (.slice p k cap) (ls.take k) := by
  rcases h with ⟨h1, rfl⟩ | ⟨a, g, o, cp, h1, h2, h3, h4⟩
  · injection h1 with e1 e2 e3
    subst e1 e3
    have : k = 0 := by simpa using hk
    subst this
    exact .inl ⟨rfl, rfl⟩
  · injection h1 with e1 e2 e3
    subst e1 e2 e3
    have hl : (ls.take k).length = k := by rw [List.length_take]; omega
    refine .inr ⟨a, g, o, cap, by rw [hl], by rw [hl]; omega, fun h => h3 (by rw [hl] at h; omega), fun j hj => ?_⟩
    rw [hl] at hj
    obtain ⟨u, q1, q2⟩ := h4 j (by omega)
    exact ⟨u, q1, by rw [List.getElem?_take_of_lt hj]; exact q2⟩
theorem rdS_old2 {w W : World} {v : Value} {xs : List Int} {ρ : Nat → Nat} {n : Nat} (h : RdB w v xs) (hn : w.heap.size ≤ n) (hb : RowKit.Below w.heap.size w W) (hρ : ∀ g, g < n → ρ g = 0) : RdS W ρ v xs := by
  rcases h with h | ⟨a, g, o, cap, h1, h2, h3, h4⟩
  · exact .inl h
  · refine .inr ⟨a, g, o, cap, h1, h2, fun hl => ⟨h3 hl, hρ g (by have h5 : g < w.heap.size := block_lt_of_cell (h4 0 hl); omega)⟩, fun j hj => ?_⟩
    rw [hb.cell (block_lt_of_cell (h4 j hj))]; exact h4 j hj
theorem rdLS_old2 {w W : World} {v : Value} {ls : List (List Int)} {ρ : Nat → Nat} {n : Nat} (h : RdL w v ls) (hn : w.heap.size ≤ n) (hb : RowKit.Below w.heap.size w W) (hρ : ∀ g, g < n → ρ g = 0) : RdLS W ρ v ls := by
  rcases h with h | ⟨a, g, o, cap, h1, h2, h3, h4⟩
  · exact .inl h
  · refine .inr ⟨a, g, o, cap, h1, h2, fun hl => ⟨h3 hl, ?_⟩, fun j hj => ?_⟩
    · obtain ⟨u, h5, -⟩ := h4 0 hl
      exact hρ g (by have h6 : g < w.heap.size := block_lt_of_cell h5; omega)
    · obtain ⟨u, h5, h6⟩ := h4 j hj
      exact ⟨u, by rw [hb.cell (block_lt_of_cell h5)]; exact h5, rdS_old2 h6 hn hb hρ⟩
theorem op_shape {w0 w : World} {A : List Nat} {D N : Nat} {d' : Dk} {x : Va} {R : List (Value × List (List Int))} {ls : List (List Int)} {args : Array Value} (hN : ls.length = N) (hc : Calls Tryd.prog 11 args w fun e w' => OpT w0 A D R w (0, d', some (x, ls)) e w') :
    Calls Tryd.prog 11 args w fun e w' => ∃ V p c, e = .returned (.tuple #[.pointer (some ⟨V, 0, none⟩), .slice p N c, .int .i64 0]) ∧ St w0 A D d' (some (V, x)) ((.slice p N c, ls) :: R) w' := by
  refine hc.mono fun e w' ⟨V, rv, he, hs⟩ => ?_
  obtain ⟨p, c, rfl, -⟩ := (hs.1.rdl (List.mem_cons_self ..)).shape
  subst hN
  exact ⟨V, p, c, he, hs.1⟩
theorem same_yes (v u : Value) (ls : List (List Int)) (w : World) (hv : RdL w v ls) (hu : RdL w u ls) (hl : ∀ r ∈ ls, Bytes r) (hn : ls.length ≤ 10000000) :
    Calls Tryd.prog 19 #[v, u] w fun e w' => e = .returned (.bool true) ∧ RowKit.Below w.heap.size w w' := by
  have := same_c v u ls ls w hv hu hl hl hn
  rwa [decide_eq_true rfl] at this
theorem on_ok : RecOk [[111, 110]] := fun r hr => by
  simp only [List.mem_singleton] at hr
  subst hr
  exact ⟨fun x hx => by simp at hx; omega, by decide⟩
theorem on_fits {d d' : Dk} {x' : Va} {c : Int} {rc : List (List Int)} {k m : Nat} (hr : roomF d = max 0 (32768 - ((44 + sizeI rc : Nat) : Int))) (hs : sizeI rc ≤ 4140) (q : (roomF d < ((sizeI [[111, 110]] : Nat) : Int) ∧ c = 7 ∧ d' = d ∧ Kept 32768 d' x' rc k m) ∨ (((sizeI [[111, 110]] : Nat) : Int) ≤ roomF d ∧ c = 0 ∧ Kept 32768 d' x' (rc ++ [[111, 110]]) k m)) :
    c = 0 ∧ Kept 32768 d' x' (rc ++ [[111, 110]]) k m := by
  have h38 : sizeI [[111, 110]] = 38 := rfl
  rcases q with ⟨h, -⟩ | ⟨-, h⟩
  · rw [h38] at h; omega
  · exact h
theorem open_len {w0 w : World} {A : List Nat} {D j k m : Nat} {d : Dk} {o : Option (Nat × Va)} {x : Va} {R : List (Value × List (List Int))} {most : Int} {ls : List (List Int)} (hj : ls.length = j) (h : St w0 A D d o R w) (kp : Kept most d x ls k m) (hk : k ≤ 900000) (hm : m ≤ 9000000) (ht : KTab w0) : Calls Tryd.prog 11 #[.pointer (some ⟨D, 0, none⟩)] w fun e w' =>
    ∃ V p cap d1 x1, e = .returned (.tuple #[.pointer (some ⟨V, 0, none⟩), .slice p j cap, .int .i64 0]) ∧ StT w0 A D d1 (some (V, x1)) ((.slice p j cap, ls) :: R) w w' ∧ Kept most d1 x1 ls (k + 4) (m + 176) := by
  subst hj
  exact k_open h kp hk hm ht
theorem rdl_row1 {W : World} {g cap : Nat} {u : Value} {r : List Int} (h1 : 1 ≤ cap) (c0 : W.cell? ⟨g, 0, none⟩ = some u) (hu : RdB W u r) : RdL W (.slice (some ⟨g, 0, none⟩) 1 cap) [r] :=
  .inr ⟨_, g, 0, cap, rfl, h1, fun _ => rfl, fun j hj => by
    obtain rfl : j = 0 := by simp at hj; omega
    exact ⟨u, c0, hu⟩⟩
/-- what the document's Sound tells of records -/
theorem sound_recs (T : List Int) (W : World) (hT : Bytes T) (hl : T.length ≤ 1000000) : Calls Tryd.prog 23 #[.string (strOfNums T), .int .i64 1] W fun e w' =>
    ∃ g pr cr gd, e = .returned (.tuple #[.int .u64 g, .slice pr (recs T).length cr, .int .i64 gd]) ∧ FrT w' W.heap.size (.slice pr (recs T).length cr) (recs T) ∧ RowKit.Below W.heap.size W w' := by
  refine (sound_c 1 T W hT hl).mono fun e w' ⟨h, hb⟩ => ?_
  unfold SoundT at h
  have hr : recs T = match lookI 1 T with
    | none => []
    | some (_, l) => l := rfl
  cases hlk : lookI 1 T with
  | none =>
    rw [hlk] at h hr
    rw [hr]
    exact ⟨0, none, 0, 0, h, FrT.nil _ _, hb⟩
  | some q =>
    obtain ⟨g, l⟩ := q
    rw [hlk] at h hr
    obtain ⟨v, he, hF⟩ := h
    have hF2 := hF
    obtain ⟨vs, ho, -⟩ := hF2
    obtain ⟨pr, cr, rfl⟩ := own_shape ho
    rw [hr]
    exact ⟨g, pr, cr, _, he, hF, hb⟩
set_option maxRecDepth 100000 in
set_option maxHeartbeats 4000000 in
theorem spoilt_t (a b : Int) (sh : Bool) (ls : List (List Int)) (p : Option Addr) (cap : Nat) (w : World) (ha : 0 ≤ a) (ha2 : a ≤ 65535) (hv : RdL w (.slice p ls.length cap) ls) (hlb : ∀ r ∈ ls, Bytes r) (hll : ls.length ≤ 10000000000000) (hlr : ∀ r ∈ ls, r.length ≤ 1000000000000000) (ht : KTab w) :
    Calls Tryd.prog 5 #[.slice p ls.length cap, .int .u16 a, .int .u8 b, .bool sh] w fun e w' => e = .returned (.bool true) ∧ RowKit.Below w.heap.size w w' := by
  obtain ⟨p', cap', e', hcap, hel⟩ := hv.shape
  cases e'
  have HT := Lib.hid ht
  have HE := Lib.hid hel
  have HV := Lib.hid hv
  have HLB := Lib.hid hlb
  have HLR := Lib.hid hlr
  have HW := Lib.hid fun W (hb : RowKit.Below w.heap.size w W) => works_c W (ht.call hb)
  clear ht hel hlb hlr hv
  go_enter Tryd.func5, Tryd.ntmps5
  go_upto_region 3 with fail
  go_loopw [9, 10] (fun n i wr => ∃ q : Nat, q ≤ ls.length ∧ i = .int .i64 q ∧ n = .int .i64 (sizeI (ls.take q) : Nat) ∧ (0 < q → sizeI (ls.take (q - 1)) ≤ 4096) ∧ wr = w) (fun _ i _ => ls.length - (intOf i).toNat)
  case atStart => exact ⟨0, by omega, rfl, rfl, fun h => by omega, rfl⟩
  case round =>
    obtain ⟨q, hq, rfl, rfl, hpr, hwr⟩ := hrel
    obtain rfl := hwr.symm
    by_cases hbig : 4096 < sizeI (ls.take q)
    · have hd1 : decide ((4096 : Int) < (sizeI (ls.take q) : Nat)) = true := decide_eq_true (by omega)
      have hd2 : decide (((sizeI (ls.take q) : Nat) : Int) ≤ 4096) = false := decide_eq_false (by omega)
      clear hpr hbig
      generalize sizeI (ls.take q) = sz at *
      by_cases hlt : q < ls.length
      · go_wp2_with (go_at_call 9; with_reducible refine (HW.out _ (RowKit.Below.refl _ _)).mono ?_; rintro e w1 ⟨rfl, hb1⟩)
        go_ret
        exact ⟨rfl, hb1⟩
      · obtain rfl : q = ls.length := by omega
        go_wp2_with (go_at_call 9; with_reducible refine (HW.out _ (RowKit.Below.refl _ _)).mono ?_; rintro e w1 ⟨rfl, hb1⟩)
        go_ret
        exact ⟨rfl, hb1⟩
    · by_cases hlt : q < ls.length
      · obtain ⟨g, o, u, rfl, hcell, hrd⟩ := HE.out q hlt
        obtain ⟨a', c', rfl, hc'⟩ := hrd.shape
        have hnx := size_next2 ls q hlt
        have hrl : (ls[q]?.getD []).length ≤ 1000000000000000 := HLR.out _ (by rw [List.getElem?_eq_getElem hlt]; exact List.getElem_mem _)
        have hw1 : IntKind.i64.wrap ((sizeI (ls.take q) : Int) + 36) = (sizeI (ls.take q) : Int) + 36 := by rw [IntKind.wrap_i64]; omega
        have hw2 : IntKind.i64.wrap ((sizeI (ls.take q) : Int) + 36 + ((ls[q]?.getD []).length : Int)) = (sizeI (ls.take (q + 1)) : Int) := by rw [IntKind.wrap_i64]; omega
        generalize ls[q]?.getD [] = r at *
        go_wp2
        exact ⟨⟨q + 1, by omega, by go_num, by rw [hnx]; go_num, fun _ => by rw [Nat.add_sub_cancel]; omega, trivial⟩, by simp [intOf]; omega⟩
      · obtain rfl : q = ls.length := by omega
        rw [List.take_length] at hbig ⊢
        have hd3 : decide ((4096 : Int) < (sizeI ls : Nat)) = false := decide_eq_false (by omega)
        clear hpr
        have hsl := size_len2 ls
        have hok : RecOk ls := fun r hr => ⟨HLB.out r hr, by have := size_mem hr; omega⟩
        have HN := Lib.hid (st_new 32768 w (by omega) (by omega))
        have HOK := Lib.hid hok
        clear hok
        obtain ⟨S, hS⟩ : ∃ S, headI 1 0 ++ framesI 1 0 ls = S := ⟨_, rfl⟩
        have hSl : S.length = 44 + sizeI ls := by rw [← hS, List.length_append, headI_len, framesI_len]
        have hSb : Bytes S := by rw [← hS]; exact (head_bytes 1 0).append (frames_bytes 1 ls 0 HLB.out)
        have HS := Lib.hid hS
        have hbig2 : sizeI ls ≤ 4096 := by omega
        have hq : ((S.length : Int) == (sizeI ls : Int) + 44) = true := beq_iff_eq.2 (by omega)
        have hne : ((S.length : Int) != (sizeI ls : Int) + 44) = false := by rw [bne, hq]; rfl
        have hwn : IntKind.i64.wrap ((sizeI ls : Int) + 44) = (sizeI ls : Int) + 44 := by rw [IntKind.wrap_i64]; omega
        have hwa : IntKind.i64.wrap a = a := by rw [IntKind.wrap_i64]; omega
        have hS0 : (0 : Int) < (S.length : Int) := by omega
        have hSu : S.length ≤ 4140 := by omega
        have HSL := Lib.hid hSl
        obtain ⟨K, hK⟩ : ∃ K : Nat, a % (S.length : Int) = K := Int.eq_ofNat_of_zero_le (Int.emod_nonneg _ (by omega))
        have hKl : K < S.length := by have := Int.emod_lt_of_pos a hS0; omega
        have hKi : (K : Int) < (S.length : Int) := by omega
        clear hS hSl hbig
        go_upto_region 12 with (first
          | (go_at_call 10; (with_reducible refine HN.out.mono ?_); rintro e w1 ⟨rfl, s1⟩)
          | (go_at_call 11; go_loud ((with_reducible refine (sp_fresh (most := 32768) (by omega) (by omega) s1 HT.out).mono ?_); rintro e w2 ⟨V2, p2, q2, d2, rfl, s2, k2, f2⟩))
          | (go_at_call 12; go_loud ((with_reducible refine (sp_add s2 k2 (by omega) (by omega) HT.out f2 _ ls (HV.out.keep s2.below) HOK.out (by omega) (by omega) (by omega)).mono ?_); rintro e w3 ⟨rfl, d3, x3, s3, k3, hx3, hg3, f3⟩))
          | fail)
        rw [HS.out] at f3
        have hok3 := k3.dg.sz.ok (by omega) (by omega)
        have HRD := Lib.hid (show Calls Tryd.prog 20 #[.pointer (some ⟨w.heap.size, 0, none⟩), .int .i64 1] w3 fun e w' => ∃ v, e = .returned (.tuple #[v, .int .i64 0]) ∧ RowO w' w3.heap.size v S ∧ RowKit.Below w3.heap.size w3 w' from by
          have := st_read s3 hok3 k3.live.off 1 (by omega)
          rw [f3] at this
          exact this)
        go_upto_region 16 with (first
          | (go_at_call 20; go_loud ((with_reducible refine HRD.out.mono ?_); rintro e w4 ⟨v4, rfl, hr4, b4⟩; obtain ⟨g4, cap4, rfl, hg4, hc4, hcell4⟩ := hr4.cells (by omega)))
          | fail)
        rw [hK]
        have rf4 := rd_front hcell4 K (by omega) hc4
        have b5 := bel_alloc (RowKit.Below.refl w4.heap.size w4) (.cells #[] 5)
        have hO5 := rowO_empty w4
        go_upto_region 17 with (first
          | (at_builtin; go_loud (refine wpList_append_rd rfl _ _ rfl w4.heap.size b5.size _ [] rfl hO5 _ (S.take K) rfl (rf4.keep b5) (by rw [List.length_take, List.length_nil]; omega) ?_); intro v6 w6 hr6 hg6; have b6 := grown_below hO5 b5 b5.size hg6)
          | fail)
        rw [List.nil_append] at hr6
        cases sh with
        | true =>
          obtain ⟨T, hTd⟩ : ∃ T, S.take K = T := ⟨_, rfl⟩
          have hTb : Bytes T := by rw [← hTd]; exact hSb.take _
          have hTl : T.length ≤ 4140 := by rw [← hTd, List.length_take]; omega
          rw [hTd] at hr6
          obtain ⟨p6, c6, hv6⟩ := (RowO.rd hr6).form
          subst hv6
          have hM := rowO_rdm hr6 w.heap.size
          have hBB := (s3.keep b4).toB b6 hM
          clear hr6 hg6 hO5 hM rf4
          obtain ⟨hc1, hc2, d5, x5, ho5, hL5, hfu5, hmo5⟩ := spoil k3.live hx3 hg3 k3.fu k3.dg (by omega) (by omega) k3.most_ T hTb (by omega)
          have hz4 := k3.dg.sz.cut 1 0
          have hdg5 : DG ((d3.cut 1 0).2.write 1 T).2 (4 + 4 + 1 + 1) (176 + 4 * (44 + sizeI ls) + T.length) := ⟨hz4.write 1 T, (k3.dg.by_.cut 1 0).write 1 T hTb⟩
          have HCT := Lib.hid (stb_cut hBB hok3 1 0)
          rw [hc1] at HCT
          have hok4 := hz4.ok (by omega) (by omega)
          have HL5 := Lib.hid hL5; have HO5 := Lib.hid ho5; have HDG5 := Lib.hid hdg5
          clear hc1 hL5 ho5 hdg5 hz4
          go_upto_region 24 with (first
            | (go_at_call 21; go_loud ((with_reducible refine HCT.out.mono ?_); rintro e w9 ⟨rfl, hB9⟩; have HWR := Lib.hid (stb_write hB9 hok4 1 (by omega)); rw [hc2] at HWR))
            | (go_at_call 22; go_loud ((with_reducible refine HWR.out.mono ?_); rintro e w10 ⟨rfl, hB10⟩))
            | fail)
          go_loopw [19, 20] (fun wv ev W => ∃ i : Nat, i ≤ ls.length ∧ wv = .int .i64 i ∧ ev = .int .i64 ((44 + sizeI (ls.take i) : Nat) : Int) ∧ (i = 0 ∨ 44 + sizeI (ls.take i) ≤ K) ∧ W = w10) (fun wv _ _ => ls.length - (intOf wv).toNat)
          case atStart => exact ⟨0, by omega, rfl, rfl, .inl rfl, rfl⟩
          case round =>
            obtain ⟨i, hi, rfl, rfl, hend, rfl⟩ := hrel
            have hti := size_take2 ls i
            by_cases hlt2 : i < ls.length
            · obtain ⟨g, o, u, rfl, hcell, hrd⟩ := HE.out i hlt2
              obtain ⟨a', c', rfl, hc'⟩ := hrd.shape
              have hcx := (World.cell?_of_block (hB10.st.below.block g (block_lt_of_cell hcell))).trans hcell
              have hnx := size_next2 ls i hlt2
              have hti2 := size_take2 ls (i + 1)
              have hw1 : IntKind.i64.wrap (((44 + sizeI (ls.take i) : Nat) : Int) + 36) = ((44 + sizeI (ls.take i) : Nat) : Int) + 36 := by rw [IntKind.wrap_i64]; omega
              have hw2 : IntKind.i64.wrap (((44 + sizeI (ls.take i) : Nat) : Int) + 36 + ((ls[i]?.getD []).length : Int)) = ((44 + sizeI (ls.take (i + 1)) : Nat) : Int) := by rw [IntKind.wrap_i64]; omega
              have hnx2 : ((44 + sizeI (ls.take (i + 1)) : Nat) : Int) = ((44 + sizeI (ls.take i) : Nat) : Int) + 36 + ((ls[i]?.getD []).length : Int) := by omega
              have HNX := Lib.hid hnx; have hend2 := hend
              clear hnx hend
              by_cases hfit : 44 + sizeI (ls.take (i + 1)) ≤ K
              · have hdf : decide (((44 + sizeI (ls.take (i + 1)) : Nat) : Int) ≤ (K : Int)) = true := decide_eq_true (by omega)
                have HFIT := Lib.hid hfit
                clear hfit hnx2 hend2
                generalize hz1 : 44 + sizeI (ls.take (i + 1)) = z1 at *
                generalize hz0 : 44 + sizeI (ls.take i) = z0 at *
                generalize ls[i]?.getD [] = r at *
                go_wp2
                exact ⟨⟨i + 1, by omega, by go_num, by rw [hz1], .inr (by rw [hz1]; exact HFIT.out), trivial⟩, by simp [intOf]; omega⟩
              · have hdf : decide (((44 + sizeI (ls.take (i + 1)) : Nat) : Int) ≤ (K : Int)) = false := decide_eq_false (by omega)
                have hfl : i < ls.length → K < 44 + sizeI (ls.take (i + 1)) := fun _ => by omega
                have HEND := Lib.hid hend2
                have HRC := Lib.hid (show recs T = ls.take i by rw [← hTd, ← HS.out]; exact recs_cut ls HOK.out K i (by omega) hend2 hfl)
                have hfi : ¬ (((44 + sizeI (ls.take (i + 1)) : Nat) : Int) ≤ (K : Int)) := by omega
                clear hfl hnx2
                generalize hz1 : 44 + sizeI (ls.take (i + 1)) = z1 at *
                generalize hz0 : 44 + sizeI (ls.take i) = z0 at *
                generalize ls[i]?.getD [] = r at *
                clear hz1 hz0 hend2
                have hrc := HRC.out
                have hN : (ls.take i).length = i := by rw [List.length_take]; omega
                have s11 := hB10.st.add (.slice _ i cap) (ls.take i) fun ρ h0 => rdLS_old2 (HV.out.part2 i (by omega)) (Nat.le_refl _) hB10.st.below h0
                obtain ⟨rc, hrcd⟩ : ∃ rc, ls.take i = rc := ⟨_, rfl⟩
                rw [hrcd] at hrc hN s11
                clear hrcd
                go_upto_region 30 with fail
                have hc := st_open s11 HDG5.out (by omega) (by omega) HT.out
                rw [HO5.out, hrc] at hc
                have hrok : RecOk rc := hrc ▸ recs_bytes hTb
                have hrs : sizeI rc ≤ 4140 := by
                  rw [← hrc]
                  rcases recs_size hTb with e | e
                  · rw [e]; simp [sizeI]
                  · omega
                have hrn := size_len2 rc
                have hNb : i ≤ 200 := by omega
                have hL6 : Live d5 x5 rc := hrc ▸ HL5.out
                have hdg6 := HDG5.out.openV
                rw [HO5.out] at hdg6
                have HK6 := Lib.hid (show Kept 32768 d5 x5 rc _ _ from ⟨hL6, hfu5, hmo5, hdg6⟩)
                have HOP := Lib.hid (op_shape hN hc)
                have hrb : ∀ r ∈ rc, Bytes r := fun r hr => (show ∀ r ∈ rc, Bytes r ∧ r.length ≤ 32768 from hrok) r hr |>.1
                have HRB := Lib.hid hrb
                have hroom := HK6.out.live.room
                rw [hmo5] at hroom
                have HRM := Lib.hid hroom
                have hwN : IntKind.i64.wrap ((i : Int) + 1) = (i : Int) + 1 := by rw [IntKind.wrap_i64]; omega
                have hN1 : (rc ++ [[111, 110]]).length = i + 1 := by rw [List.length_append, hN]; rfl
                have HN1 := Lib.hid hN1
                have h38 : sizeI [[111, 110]] = 38 := rfl
                have HNN := Lib.hid hN
                clear hc hL6 hdg6 hroom hrb hN1 hrok hN
                go_upto_region 33 with (first
                  | (go_at_call 11; go_loud ((with_reducible refine HOP.out.mono ?_); rintro e w12 ⟨V12, p12, c12, rfl, s12⟩; have rl := s12.rdl (List.mem_cons_self ..); have rr := s12.rdl (List.mem_cons_of_mem _ (List.mem_cons_self ..))))
                  | (go_at_call 19; go_loud ((with_reducible refine (same_yes _ _ rc _ rl rr HRB.out (by omega)).mono ?_); rintro e w13 ⟨rfl, b13⟩; have s13 := s12.keep b13))
                  | fail)
                go_upto_region 34 with (first
                  | (go_at_call 24; go_loud ((with_reducible refine (b_c _ _).mono ?_); rintro e w14 ⟨v14, rfl, t14, b14⟩; have hon : numsOf { data := #[111, 110] } = [111, 110] := rfl; rw [hon] at t14; have t14' := t14; obtain ⟨c14, rfl, -, -⟩ := t14'; have b15 := bel_alloc b14 (.cells #[.slice (some ⟨w13.heap.size, 0, none⟩) 2 c14] 35); have s15 := s13.keep b15; have r15 := rdl_row1 (cap := 1) (Nat.le_refl 1) (cell_of_row _ _ 0 _ _ _ (heap_alloc_new w14 (.cells #[.slice (some ⟨w13.heap.size, 0, none⟩) 2 c14] 35))) (t14.keep (bel_alloc (RowKit.Below.refl w14.heap.size w14) (.cells #[.slice (some ⟨w13.heap.size, 0, none⟩) 2 c14] 35))).rd))
                  | (go_at_call 12; go_loud ((with_reducible refine (k_add s15 HK6.out (by omega) (by omega) HT.out _ [[111, 110]] r15 on_ok (by decide) (by decide) (by rw [HNN.out]; simp; omega)).mono ?_); rintro e w16 ⟨c16, d16, x16, rfl, ⟨s16, -, -⟩, q16⟩; obtain ⟨rfl, k16⟩ := on_fits HRM.out hrs q16))
                  | fail)
                go_upto_region 35 with (first
                  | (go_at_call 11; go_loud ((with_reducible refine (open_len HN1.out s16 k16 (by omega) (by omega) HT.out).mono ?_); rintro e w17 ⟨V17, p17, c17, d17, x17, rfl, ⟨s17, -, -⟩, k17⟩))
                  | fail)
                obtain ⟨q17, cc17, e17, hcc17, hel17⟩ := (s17.rdl (List.mem_cons_self ..)).shape
                injection e17 with e1 e2 e3
                subst e1 e3
                obtain ⟨g17, o17, u17, rfl, hcell17, hrd17⟩ := hel17 i (by rw [HN1.out]; omega)
                have hon17 : (rc ++ [[111, 110]])[i]?.getD [] = [111, 110] := by rw [← HNN.out, List.getElem?_append_right (Nat.le_refl _), Nat.sub_self]; rfl
                rw [hon17] at hrd17
                have ht17 := rd_text hrd17
                obtain ⟨a17, c18, rfl, -⟩ := hrd17.shape
                have hso : strOfNums [111, 110] = { data := #[111, 110] } := rfl
                rw [hso] at ht17
                rw [show ([111, 110] : List Int).length = 2 from rfl] at ht17 hcell17
                have HB17 := Lib.hid s17.below
                have HWW := Lib.hid (HW.out _ HB17.out)
                clear hel17 hrd17 hon17 e2 hso s17 k17 k16 s16
                go_wp2_with (first
                  | (go_at_call 9; go_loud ((with_reducible refine HWW.out.mono ?_); rintro e w18 ⟨rfl, b18⟩; have b19 := bel_call HB17.out b18))
                  | fail)
                go_ret
                exact ⟨rfl, b19⟩
            · obtain rfl : i = ls.length := by omega
              have HEND := Lib.hid hend
              have hfl : ls.length < ls.length → K < 44 + sizeI (ls.take (ls.length + 1)) := fun h => absurd h (by omega)
              have HRC := Lib.hid (show recs T = ls.take ls.length by rw [← hTd, ← HS.out]; exact recs_cut ls HOK.out K ls.length (by omega) HEND.out hfl)
              clear hend hfl
              have hrc := HRC.out
              have hN : (ls.take ls.length).length = ls.length := by rw [List.length_take]; omega
              have s11 := hB10.st.add (.slice _ ls.length cap) (ls.take ls.length) fun ρ h0 => rdLS_old2 (HV.out.part2 ls.length (by omega)) (Nat.le_refl _) hB10.st.below h0
              obtain ⟨rc, hrcd⟩ : ∃ rc, ls.take ls.length = rc := ⟨_, rfl⟩
              rw [hrcd] at hrc hN s11
              clear hrcd
              go_upto_region 30 with fail
              have hc := st_open s11 HDG5.out (by omega) (by omega) HT.out
              rw [HO5.out, hrc] at hc
              have hrok : RecOk rc := hrc ▸ recs_bytes hTb
              have hrs : sizeI rc ≤ 4140 := by
                rw [← hrc]
                rcases recs_size hTb with e | e
                · rw [e]; simp [sizeI]
                · omega
              have hrn := size_len2 rc
              have hNb : ls.length ≤ 200 := by omega
              have hL6 : Live d5 x5 rc := hrc ▸ HL5.out
              have hdg6 := HDG5.out.openV
              rw [HO5.out] at hdg6
              have HK6 := Lib.hid (show Kept 32768 d5 x5 rc _ _ from ⟨hL6, hfu5, hmo5, hdg6⟩)
              have HOP := Lib.hid (op_shape hN hc)
              have hrb : ∀ r ∈ rc, Bytes r := fun r hr => (show ∀ r ∈ rc, Bytes r ∧ r.length ≤ 32768 from hrok) r hr |>.1
              have HRB := Lib.hid hrb
              have hroom := HK6.out.live.room
              rw [hmo5] at hroom
              have HRM := Lib.hid hroom
              have hwN : IntKind.i64.wrap ((ls.length : Int) + 1) = (ls.length : Int) + 1 := by rw [IntKind.wrap_i64]; omega
              have hN1 : (rc ++ [[111, 110]]).length = ls.length + 1 := by rw [List.length_append, hN]; rfl
              have HN1 := Lib.hid hN1
              have h38 : sizeI [[111, 110]] = 38 := rfl
              have HNN := Lib.hid hN
              clear hc hL6 hdg6 hroom hrb hN1 hrok hN
              go_upto_region 33 with (first
                | (go_at_call 11; go_loud ((with_reducible refine HOP.out.mono ?_); rintro e w12 ⟨V12, p12, c12, rfl, s12⟩; have rl := s12.rdl (List.mem_cons_self ..); have rr := s12.rdl (List.mem_cons_of_mem _ (List.mem_cons_self ..))))
                | (go_at_call 19; go_loud ((with_reducible refine (same_yes _ _ rc _ rl rr HRB.out (by omega)).mono ?_); rintro e w13 ⟨rfl, b13⟩; have s13 := s12.keep b13))
                | fail)
              go_upto_region 34 with (first
                | (go_at_call 24; go_loud ((with_reducible refine (b_c _ _).mono ?_); rintro e w14 ⟨v14, rfl, t14, b14⟩; have hon : numsOf { data := #[111, 110] } = [111, 110] := rfl; rw [hon] at t14; have t14' := t14; obtain ⟨c14, rfl, -, -⟩ := t14'; have b15 := bel_alloc b14 (.cells #[.slice (some ⟨w13.heap.size, 0, none⟩) 2 c14] 35); have s15 := s13.keep b15; have r15 := rdl_row1 (cap := 1) (Nat.le_refl 1) (cell_of_row _ _ 0 _ _ _ (heap_alloc_new w14 (.cells #[.slice (some ⟨w13.heap.size, 0, none⟩) 2 c14] 35))) (t14.keep (bel_alloc (RowKit.Below.refl w14.heap.size w14) (.cells #[.slice (some ⟨w13.heap.size, 0, none⟩) 2 c14] 35))).rd))
                | (go_at_call 12; go_loud ((with_reducible refine (k_add s15 HK6.out (by omega) (by omega) HT.out _ [[111, 110]] r15 on_ok (by decide) (by decide) (by rw [HNN.out]; simp; omega)).mono ?_); rintro e w16 ⟨c16, d16, x16, rfl, ⟨s16, -, -⟩, q16⟩; obtain ⟨rfl, k16⟩ := on_fits HRM.out hrs q16))
                | fail)
              go_upto_region 35 with (first
                | (go_at_call 11; go_loud ((with_reducible refine (open_len HN1.out s16 k16 (by omega) (by omega) HT.out).mono ?_); rintro e w17 ⟨V17, p17, c17, d17, x17, rfl, ⟨s17, -, -⟩, k17⟩))
                | fail)
              obtain ⟨q17, cc17, e17, hcc17, hel17⟩ := (s17.rdl (List.mem_cons_self ..)).shape
              injection e17 with e1 e2 e3
              subst e1 e3
              obtain ⟨g17, o17, u17, rfl, hcell17, hrd17⟩ := hel17 ls.length (by rw [HN1.out]; omega)
              have hon17 : (rc ++ [[111, 110]])[ls.length]?.getD [] = [111, 110] := by rw [← HNN.out, List.getElem?_append_right (Nat.le_refl _), Nat.sub_self]; rfl
              rw [hon17] at hrd17
              have ht17 := rd_text hrd17
              obtain ⟨a17, c18, rfl, -⟩ := hrd17.shape
              have hso : strOfNums [111, 110] = { data := #[111, 110] } := rfl
              rw [hso] at ht17
              rw [show ([111, 110] : List Int).length = 2 from rfl] at ht17 hcell17
              have HB17 := Lib.hid s17.below
              have HWW := Lib.hid (HW.out _ HB17.out)
              clear hel17 hrd17 hon17 e2 hso s17 k17 k16 s16
              go_wp2_with (first
                | (go_at_call 9; go_loud ((with_reducible refine HWW.out.mono ?_); rintro e w18 ⟨rfl, b18⟩; have b19 := bel_call HB17.out b18))
                | fail)
              go_ret
              exact ⟨rfl, b19⟩
        | false =>
          have HC4 := Lib.hid (fun W (h : RowKit.Below w4.heap.size w4 W) => rd_front (fun j hj => (h.cell (block_lt_of_cell (hcell4 j hj))).trans (hcell4 j hj)) S.length (Nat.le_refl _) hc4)
          have b7 := bel_alloc b6 (.cells #[] 5)
          have hs6 := b6.size
          have hO7 := (rowO_empty w6).down hs6
          have hxl : S.take S.length = S := List.take_length
          clear hr6 hg6 hO5 rf4
          go_upto_region 19 with (first
            | (at_builtin; go_loud (refine wpList_append_rd rfl _ _ rfl w4.heap.size b7.size _ [] rfl hO7 _ S rfl (by have := HC4.out _ b7; rwa [hxl] at this) (by rw [List.length_nil]; omega) ?_); intro v8 w8 hr8 hg8; have b8 := grown_below hO7 b7 b7.size hg8)
            | fail)
          rw [List.nil_append] at hr8
          obtain ⟨y, hy⟩ : ∃ y, S[K]?.getD 0 = y := ⟨_, rfl⟩
          obtain ⟨g8, cap8, rfl, hc8, hg8b, hg8s, hcell8, hfz8, hM8⟩ := rowO_turned hr8 w.heap.size K hKl (bits .xor .u8 y b)
          rw [hy] at hcell8
          clear hy
          have hM0 := hM8
          have hbs8 := Below.setCell b8 (p := ⟨g8, K, none⟩) hg8b (.int .u8 (bits .xor .u8 y b))
          have hKc : (K : Int) < (S.length : Int) := hKi
          clear hg8 hO7
          go_upto_region 20 with fail
          obtain ⟨T, hTd⟩ : ∃ T, S.set K (bits .xor .u8 y b) = T := ⟨_, rfl⟩
          have hTb : Bytes T := by rw [← hTd]; exact bytes_set hSb K _ (xor_u8 _ _)
          have hTl : T.length ≤ 4140 := by rw [← hTd, List.length_set]; omega
          rw [hTd] at hM8 hM0
          have hBB := (s3.keep b4).toB hbs8 hM8
          clear hM8 hM0
          obtain ⟨hc1, hc2, d5, x5, ho5, hL5, hfu5, hmo5⟩ := spoil k3.live hx3 hg3 k3.fu k3.dg (by omega) (by omega) k3.most_ T hTb (by omega)
          have hz4 := k3.dg.sz.cut 1 0
          have hdg5 : DG ((d3.cut 1 0).2.write 1 T).2 (4 + 4 + 1 + 1) (176 + 4 * (44 + sizeI ls) + T.length) := ⟨hz4.write 1 T, (k3.dg.by_.cut 1 0).write 1 T hTb⟩
          have HCT := Lib.hid (stb_cut hBB hok3 1 0)
          rw [hc1] at HCT
          have hok4 := hz4.ok (by omega) (by omega)
          have HL5 := Lib.hid hL5; have HO5 := Lib.hid ho5; have HDG5 := Lib.hid hdg5
          clear hc1 hL5 ho5 hdg5 hz4
          go_upto_region 24 with (first
            | (go_at_call 21; go_loud ((with_reducible refine HCT.out.mono ?_); rintro e w9 ⟨rfl, hB9⟩; have HWR := Lib.hid (stb_write hB9 hok4 1 (by omega)); rw [hc2] at HWR))
            | (go_at_call 22; go_loud ((with_reducible refine HWR.out.mono ?_); rintro e w10 ⟨rfl, hB10⟩))
            | fail)
          go_loopw [19, 20] (fun wv ev W => ∃ i : Nat, i ≤ ls.length ∧ wv = .int .i64 i ∧ ev = .int .i64 ((44 + sizeI (ls.take i) : Nat) : Int) ∧ (i = 0 ∨ 44 + sizeI (ls.take i) ≤ K) ∧ W = w10) (fun wv _ _ => ls.length - (intOf wv).toNat)
          case atStart => exact ⟨0, by omega, rfl, rfl, .inl rfl, rfl⟩
          case round =>
            obtain ⟨i, hi, rfl, rfl, hend, rfl⟩ := hrel
            have hti := size_take2 ls i
            by_cases hlt2 : i < ls.length
            · obtain ⟨g, o, u, rfl, hcell, hrd⟩ := HE.out i hlt2
              obtain ⟨a', c', rfl, hc'⟩ := hrd.shape
              have hcx := (World.cell?_of_block (hB10.st.below.block g (block_lt_of_cell hcell))).trans hcell
              have hnx := size_next2 ls i hlt2
              have hti2 := size_take2 ls (i + 1)
              have hw1 : IntKind.i64.wrap (((44 + sizeI (ls.take i) : Nat) : Int) + 36) = ((44 + sizeI (ls.take i) : Nat) : Int) + 36 := by rw [IntKind.wrap_i64]; omega
              have hw2 : IntKind.i64.wrap (((44 + sizeI (ls.take i) : Nat) : Int) + 36 + ((ls[i]?.getD []).length : Int)) = ((44 + sizeI (ls.take (i + 1)) : Nat) : Int) := by rw [IntKind.wrap_i64]; omega
              have hnx2 : ((44 + sizeI (ls.take (i + 1)) : Nat) : Int) = ((44 + sizeI (ls.take i) : Nat) : Int) + 36 + ((ls[i]?.getD []).length : Int) := by omega
              have HNX := Lib.hid hnx; have hend2 := hend
              clear hnx hend
              by_cases hfit : 44 + sizeI (ls.take (i + 1)) ≤ K
              · have hdf : decide (((44 + sizeI (ls.take (i + 1)) : Nat) : Int) ≤ (K : Int)) = true := decide_eq_true (by omega)
                have HFIT := Lib.hid hfit
                clear hfit hnx2 hend2
                generalize hz1 : 44 + sizeI (ls.take (i + 1)) = z1 at *
                generalize hz0 : 44 + sizeI (ls.take i) = z0 at *
                generalize ls[i]?.getD [] = r at *
                go_wp2
                exact ⟨⟨i + 1, by omega, by go_num, by rw [hz1], .inr (by rw [hz1]; exact HFIT.out), trivial⟩, by simp [intOf]; omega⟩
              · have hdf : decide (((44 + sizeI (ls.take (i + 1)) : Nat) : Int) ≤ (K : Int)) = false := decide_eq_false (by omega)
                have hfl : i < ls.length → K < 44 + sizeI (ls.take (i + 1)) := fun _ => by omega
                have HEND := Lib.hid hend2
                have hfi : ¬ (((44 + sizeI (ls.take (i + 1)) : Nat) : Int) ≤ (K : Int)) := by omega
                clear hfl hnx2
                generalize hz1 : 44 + sizeI (ls.take (i + 1)) = z1 at *
                generalize hz0 : 44 + sizeI (ls.take i) = z0 at *
                generalize ls[i]?.getD [] = r at *
                clear hz1 hz0 hend2
                have ht10 := rd_text hB10.rd
                have hSD := Lib.hid (sound_recs T wr hTb (by omega))
                obtain ⟨rc, hrc⟩ : ∃ rc, recs T = rc := ⟨_, rfl⟩
                obtain ⟨N, hN⟩ : ∃ N, rc.length = N := ⟨_, rfl⟩
                rw [hrc, hN] at hSD
                generalize strOfNums T = sT at *
                go_upto_region 30 with (first
                  | (go_at_call 23; go_loud ((with_reducible refine hSD.out.mono ?_); rintro e w11 ⟨g11, pr, cr, gd, rfl, hF11, b11⟩; have s11 := hB10.st.addNew b11 (.slice pr N cr) rc fun ρ h0 hf _ => hF11.rdls hf))
                  | fail)
                have hc := st_open s11 HDG5.out (by omega) (by omega) HT.out
                rw [HO5.out, hrc] at hc
                have hrok : RecOk rc := hrc ▸ recs_bytes hTb
                have hrs : sizeI rc ≤ 4140 := by
                  rw [← hrc]
                  rcases recs_size hTb with e | e
                  · rw [e]; simp [sizeI]
                  · omega
                have hrn := size_len2 rc
                have hNb : N ≤ 200 := by omega
                have hL6 : Live d5 x5 rc := hrc ▸ HL5.out
                have hdg6 := HDG5.out.openV
                rw [HO5.out] at hdg6
                have HK6 := Lib.hid (show Kept 32768 d5 x5 rc _ _ from ⟨hL6, hfu5, hmo5, hdg6⟩)
                have HOP := Lib.hid (op_shape hN hc)
                have hrb : ∀ r ∈ rc, Bytes r := fun r hr => (show ∀ r ∈ rc, Bytes r ∧ r.length ≤ 32768 from hrok) r hr |>.1
                have HRB := Lib.hid hrb
                have hroom := HK6.out.live.room
                rw [hmo5] at hroom
                have HRM := Lib.hid hroom
                have hwN : IntKind.i64.wrap ((N : Int) + 1) = (N : Int) + 1 := by rw [IntKind.wrap_i64]; omega
                have hN1 : (rc ++ [[111, 110]]).length = N + 1 := by rw [List.length_append, hN]; rfl
                have HN1 := Lib.hid hN1
                have h38 : sizeI [[111, 110]] = 38 := rfl
                have HNN := Lib.hid hN
                clear hc hL6 hdg6 hroom hrb hN1 hrok hN
                go_upto_region 33 with (first
                  | (go_at_call 11; go_loud ((with_reducible refine HOP.out.mono ?_); rintro e w12 ⟨V12, p12, c12, rfl, s12⟩; have rl := s12.rdl (List.mem_cons_self ..); have rr := s12.rdl (List.mem_cons_of_mem _ (List.mem_cons_self ..))))
                  | (go_at_call 19; go_loud ((with_reducible refine (same_yes _ _ rc _ rl rr HRB.out (by omega)).mono ?_); rintro e w13 ⟨rfl, b13⟩; have s13 := s12.keep b13))
                  | fail)
                go_upto_region 34 with (first
                  | (go_at_call 24; go_loud ((with_reducible refine (b_c _ _).mono ?_); rintro e w14 ⟨v14, rfl, t14, b14⟩; have hon : numsOf { data := #[111, 110] } = [111, 110] := rfl; rw [hon] at t14; have t14' := t14; obtain ⟨c14, rfl, -, -⟩ := t14'; have b15 := bel_alloc b14 (.cells #[.slice (some ⟨w13.heap.size, 0, none⟩) 2 c14] 35); have s15 := s13.keep b15; have r15 := rdl_row1 (cap := 1) (Nat.le_refl 1) (cell_of_row _ _ 0 _ _ _ (heap_alloc_new w14 (.cells #[.slice (some ⟨w13.heap.size, 0, none⟩) 2 c14] 35))) (t14.keep (bel_alloc (RowKit.Below.refl w14.heap.size w14) (.cells #[.slice (some ⟨w13.heap.size, 0, none⟩) 2 c14] 35))).rd))
                  | (go_at_call 12; go_loud ((with_reducible refine (k_add s15 HK6.out (by omega) (by omega) HT.out _ [[111, 110]] r15 on_ok (by decide) (by decide) (by rw [HNN.out]; simp; omega)).mono ?_); rintro e w16 ⟨c16, d16, x16, rfl, ⟨s16, -, -⟩, q16⟩; obtain ⟨rfl, k16⟩ := on_fits HRM.out hrs q16))
                  | fail)
                go_upto_region 35 with (first
                  | (go_at_call 11; go_loud ((with_reducible refine (open_len HN1.out s16 k16 (by omega) (by omega) HT.out).mono ?_); rintro e w17 ⟨V17, p17, c17, d17, x17, rfl, ⟨s17, -, -⟩, k17⟩))
                  | fail)
                obtain ⟨q17, cc17, e17, hcc17, hel17⟩ := (s17.rdl (List.mem_cons_self ..)).shape
                injection e17 with e1 e2 e3
                subst e1 e3
                obtain ⟨g17, o17, u17, rfl, hcell17, hrd17⟩ := hel17 N (by rw [HN1.out]; omega)
                have hon17 : (rc ++ [[111, 110]])[N]?.getD [] = [111, 110] := by rw [← HNN.out, List.getElem?_append_right (Nat.le_refl _), Nat.sub_self]; rfl
                rw [hon17] at hrd17
                have ht17 := rd_text hrd17
                obtain ⟨a17, c18, rfl, -⟩ := hrd17.shape
                have hso : strOfNums [111, 110] = { data := #[111, 110] } := rfl
                rw [hso] at ht17
                rw [show ([111, 110] : List Int).length = 2 from rfl] at ht17 hcell17
                have HB17 := Lib.hid s17.below
                have HWW := Lib.hid (HW.out _ HB17.out)
                clear hel17 hrd17 hon17 e2 hso s17 k17 k16 s16
                go_wp2_with (first
                  | (go_at_call 9; go_loud ((with_reducible refine HWW.out.mono ?_); rintro e w18 ⟨rfl, b18⟩; have b19 := bel_call HB17.out b18))
                  | fail)
                go_ret
                exact ⟨rfl, b19⟩
            · obtain rfl : i = ls.length := by omega
              have HEND := Lib.hid hend
              have hfl : ls.length < ls.length → K < 44 + sizeI (ls.take (ls.length + 1)) := fun h => absurd h (by omega)
              clear hend hfl
              have ht10 := rd_text hB10.rd
              have hSD := Lib.hid (sound_recs T wr hTb (by omega))
              obtain ⟨rc, hrc⟩ : ∃ rc, recs T = rc := ⟨_, rfl⟩
              obtain ⟨N, hN⟩ : ∃ N, rc.length = N := ⟨_, rfl⟩
              rw [hrc, hN] at hSD
              generalize strOfNums T = sT at *
              go_upto_region 30 with (first
                | (go_at_call 23; go_loud ((with_reducible refine hSD.out.mono ?_); rintro e w11 ⟨g11, pr, cr, gd, rfl, hF11, b11⟩; have s11 := hB10.st.addNew b11 (.slice pr N cr) rc fun ρ h0 hf _ => hF11.rdls hf))
                | fail)
              have hc := st_open s11 HDG5.out (by omega) (by omega) HT.out
              rw [HO5.out, hrc] at hc
              have hrok : RecOk rc := hrc ▸ recs_bytes hTb
              have hrs : sizeI rc ≤ 4140 := by
                rw [← hrc]
                rcases recs_size hTb with e | e
                · rw [e]; simp [sizeI]
                · omega
              have hrn := size_len2 rc
              have hNb : N ≤ 200 := by omega
              have hL6 : Live d5 x5 rc := hrc ▸ HL5.out
              have hdg6 := HDG5.out.openV
              rw [HO5.out] at hdg6
              have HK6 := Lib.hid (show Kept 32768 d5 x5 rc _ _ from ⟨hL6, hfu5, hmo5, hdg6⟩)
              have HOP := Lib.hid (op_shape hN hc)
              have hrb : ∀ r ∈ rc, Bytes r := fun r hr => (show ∀ r ∈ rc, Bytes r ∧ r.length ≤ 32768 from hrok) r hr |>.1
              have HRB := Lib.hid hrb
              have hroom := HK6.out.live.room
              rw [hmo5] at hroom
              have HRM := Lib.hid hroom
              have hwN : IntKind.i64.wrap ((N : Int) + 1) = (N : Int) + 1 := by rw [IntKind.wrap_i64]; omega
              have hN1 : (rc ++ [[111, 110]]).length = N + 1 := by rw [List.length_append, hN]; rfl
              have HN1 := Lib.hid hN1
              have h38 : sizeI [[111, 110]] = 38 := rfl
              have HNN := Lib.hid hN
              clear hc hL6 hdg6 hroom hrb hN1 hrok hN
              go_upto_region 33 with (first
                | (go_at_call 11; go_loud ((with_reducible refine HOP.out.mono ?_); rintro e w12 ⟨V12, p12, c12, rfl, s12⟩; have rl := s12.rdl (List.mem_cons_self ..); have rr := s12.rdl (List.mem_cons_of_mem _ (List.mem_cons_self ..))))
                | (go_at_call 19; go_loud ((with_reducible refine (same_yes _ _ rc _ rl rr HRB.out (by omega)).mono ?_); rintro e w13 ⟨rfl, b13⟩; have s13 := s12.keep b13))
                | fail)
              go_upto_region 34 with (first
                | (go_at_call 24; go_loud ((with_reducible refine (b_c _ _).mono ?_); rintro e w14 ⟨v14, rfl, t14, b14⟩; have hon : numsOf { data := #[111, 110] } = [111, 110] := rfl; rw [hon] at t14; have t14' := t14; obtain ⟨c14, rfl, -, -⟩ := t14'; have b15 := bel_alloc b14 (.cells #[.slice (some ⟨w13.heap.size, 0, none⟩) 2 c14] 35); have s15 := s13.keep b15; have r15 := rdl_row1 (cap := 1) (Nat.le_refl 1) (cell_of_row _ _ 0 _ _ _ (heap_alloc_new w14 (.cells #[.slice (some ⟨w13.heap.size, 0, none⟩) 2 c14] 35))) (t14.keep (bel_alloc (RowKit.Below.refl w14.heap.size w14) (.cells #[.slice (some ⟨w13.heap.size, 0, none⟩) 2 c14] 35))).rd))
                | (go_at_call 12; go_loud ((with_reducible refine (k_add s15 HK6.out (by omega) (by omega) HT.out _ [[111, 110]] r15 on_ok (by decide) (by decide) (by rw [HNN.out]; simp; omega)).mono ?_); rintro e w16 ⟨c16, d16, x16, rfl, ⟨s16, -, -⟩, q16⟩; obtain ⟨rfl, k16⟩ := on_fits HRM.out hrs q16))
                | fail)
              go_upto_region 35 with (first
                | (go_at_call 11; go_loud ((with_reducible refine (open_len HN1.out s16 k16 (by omega) (by omega) HT.out).mono ?_); rintro e w17 ⟨V17, p17, c17, d17, x17, rfl, ⟨s17, -, -⟩, k17⟩))
                | fail)
              obtain ⟨q17, cc17, e17, hcc17, hel17⟩ := (s17.rdl (List.mem_cons_self ..)).shape
              injection e17 with e1 e2 e3
              subst e1 e3
              obtain ⟨g17, o17, u17, rfl, hcell17, hrd17⟩ := hel17 N (by rw [HN1.out]; omega)
              have hon17 : (rc ++ [[111, 110]])[N]?.getD [] = [111, 110] := by rw [← HNN.out, List.getElem?_append_right (Nat.le_refl _), Nat.sub_self]; rfl
              rw [hon17] at hrd17
              have ht17 := rd_text hrd17
              obtain ⟨a17, c18, rfl, -⟩ := hrd17.shape
              have hso : strOfNums [111, 110] = { data := #[111, 110] } := rfl
              rw [hso] at ht17
              rw [show ([111, 110] : List Int).length = 2 from rfl] at ht17 hcell17
              have HB17 := Lib.hid s17.below
              have HWW := Lib.hid (HW.out _ HB17.out)
              clear hel17 hrd17 hon17 e2 hso s17 k17 k16 s16
              go_wp2_with (first
                | (go_at_call 9; go_loud ((with_reducible refine HWW.out.mono ?_); rintro e w18 ⟨rfl, b18⟩; have b19 := bel_call HB17.out b18))
                | fail)
              go_ret
              exact ⟨rfl, b19⟩
theorem spoilt_w (v : Value) (ls : List (List Int)) (a b : Int) (sh : Bool) (w : World) (hv : RdL w v ls) (hlb : ∀ l ∈ ls, Bytes l) (hll : ls.length ≤ 10000000000000) (hlr : ∀ l ∈ ls, l.length ≤ 1000000000000000) (ha : 0 ≤ a) (ha2 : a ≤ 65535) (_ : 0 ≤ b) (_ : b ≤ 255) (ht : KTab w) :
    Calls Tryd.prog 5 #[v, .int .u16 a, .int .u8 b, .bool sh] w fun e w' => e = .returned (.bool true) ∧ RowKit.Below w.heap.size w w' := by
  obtain ⟨p, cap, rfl, -⟩ := hv.shape
  exact spoilt_t a b sh ls p cap w ha ha2 hv hlb hll hlr ht
end Go.Proofs.YtfohemgfiidokaaDoor
