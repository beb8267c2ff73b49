/- append of any bytes that may be read. -/
import Derived.Test.YtoeooabaofpngaaOa
namespace Go.Proofs.Ytoeooabaofpngaa
open Go.RowKit Go.Sort
theorem grownBy_refl (w : World) (row : Option Nat) : w.grownBy w row := ⟨rfl, rfl, rfl, Nat.le_refl _, fun _ _ _ => rfl⟩
/-- append of any bytes that may be read, nil too, to a row of one's own -/
theorem wpList_append_rd {w : World} {ops : Array Oper} {rest : List Oper} {o : Oper} {a : Act} {Q : Exit → Act → World → Prop} (hgd : o.guard = none) (s x : Operand)
    (ho : o.op = .call { callee := .builtin .append, args := #[s, x], argTypes := #[22, 22] }) (base : Nat) (hbase : base ≤ w.heap.size)
    (v : Value) (xs : List Int) (hs : a.eval s = v) (hown : RowO w base v xs) (u : Value) (ys : List Int) (hx : a.eval x = u) (hr : RdB w u ys) (hlen : xs.length + ys.length ≤ 1000000000)
    (h : ∀ v' w', RowO w' base v' (xs ++ ys) → w.grownBy w' v.ownBlock → wpList Try.prog ops Q rest (a.put o.dst v') w') : wpList Try.prog ops Q (o :: rest) a w := by
  obtain ⟨i0, hi, hz0, hz1, hz2⟩ := info_parts Try.info5
  rcases hr with ⟨rfl, rfl⟩ | ⟨a', g, of, cap, rfl, hc, ha, hcell⟩
  · refine wpList_append_none hgd s x 22 ho base 5 i0 1 Try.underlying22 hi v xs.length (u8s xs) hs hown hx ?_
    exact h v w (by rw [List.append_nil]; exact hown) (grownBy_refl _ _)
  · have hcs := rd_cell ha hcell ys.length
    rw [List.take_length] at hcs
    refine wpList_append_own _ hgd s x 22 ho base 5 i0 (.int .u8 0) 1 1 Try.underlying22 hi hz0 hz1 hz2 rfl (by decide) v xs.length (u8s xs) hs hown a' ys.length cap (u8s ys) hx (by simp [u8s]) hcs (u8s_one ys) (by unfold maxLen; omega) (by omega) hbase ?_
    intro v' w1 hown' hgrow _
    refine h v' w1 ?_ hgrow
    unfold RowO
    rw [List.length_append, show u8s (xs ++ ys) = u8s xs ++ u8s ys by simp [u8s]]
    exact hown'
end Go.Proofs.Ytoeooabaofpngaa
