/- A slice of texts that came in, opened to its cells. -/
import Derived.Test.YtlmnagakgchpdaaHolF
import Derived.Test.YtlmnagakgchpdaaHolO
import Derived.SliceStrings
set_option linter.unusedVariables false
namespace Go.Proofs.Ytlmnagakgchpdaa
open Go.ChangeShapes Go.WideShapes Go.Deep Go.RowKit

theorem strs_bulk {H : Type} (l : List ByteArray) : ∀ t ∈ l, t.size ≤ Rows.uptoBulkAll (strs (H := H) l) := by
  induction l with
  | nil => intro t h; cases h
  | cons a l ih =>
    intro t h
    have e : strs (H := H) (a :: l) = .lit (.string a.data.toList) :: strs l := rfl
    rw [e]
    simp only [Rows.uptoBulkAll, Rows.uptoBulk, len_data]
    rcases List.mem_cons.1 h with rfl | h
    · omega
    · have := ih t h; omega
section
variable {H : Type} {enc : TypeId × Value → H} {w : World}
theorem open_txts {r : Reach} {b0 : Nat} {v : Value} {d : DataW H} {ps : List MemPlace} (hval : Value.okWide Try.prog w r b0 23 v) (hd : DataW.Trod enc Try.prog w 0 (fun _ => true) true 23 v d ps) :
    ∃ (A : Option Addr) (n cap : Nat) (l : List ByteArray), v = .slice A n cap ∧ l.length = n ∧ TxtsAt w w.heap.size A l ∧ (∀ t ∈ l, t.size ≤ Rows.uptoBulk d) ∧ l.length ≤ Rows.uptoBulk d := by
  obtain ⟨A, n, cap, rfl⟩ := okWide_slice Try.underlying23 hval
  obtain ⟨fuel, hf⟩ := hd
  rcases open_strings Try.underlying23 Try.underlying9 (by kernel_rfl) hf with ⟨h1, h2⟩ | ⟨a, len, c, ss, h1, hb, hlc, hcm, hsl, hx, hcell, hsz⟩
  · have h3 : Value.slice A n cap = .slice none 0 0 := by simpa [Value.cells] using h1
    injection h3 with e1 e2 e3
    subst e1 e2 e3
    exact ⟨none, 0, 0, [], rfl, rfl, Reads.none_, (fun t h => by cases h), by simp⟩
  · have h3 : Value.slice A n cap = .slice (some a) len c := by simpa [Value.cells] using h1
    injection h3 with e1 e2 e3
    subst e1 e2 e3
    have hle : n ≤ ss.length := by rw [hsl]; split <;> omega
    have hl : (ss.take n).length = n := by rw [List.length_take]; omega
    simp only [Prod.mk.injEq] at hx
    refine ⟨some a, n, cap, ss.take n, rfl, hl, ⟨by simp, fun hn => ⟨a, rfl, ?_, ?_⟩⟩, ?_, ?_⟩
    · have h0 := hcell 0 (by omega)
      have := cell_lt h0
      rw [block_of_add] at this
      exact this
    · intro j u hu
      have hj : j < n := by
        rcases Nat.lt_or_ge j n with h | h
        · exact h
        · rw [List.getElem?_eq_none (by rw [List.length_map, hl]; exact h)] at hu; cases hu
      have h0 := hcell j (by omega)
      rw [h0]
      rw [List.getElem?_map, List.getElem?_take, if_pos hj] at hu
      rw [List.getD_eq_getElem?_getD]
      cases he : ss[j]? with
      | none => rw [he] at hu; cases hu
      | some z => rw [he] at hu; simpa using hu
    · intro t ht
      rw [hx.1]
      have := strs_bulk (H := H) (ss.take n) t ht
      simp only [Rows.uptoBulk]; omega
    · rw [hx.1, hl]
      have := bulkAll_len (strs (H := H) (ss.take n))
      rw [show (strs (H := H) (ss.take n)).length = n by unfold strs; rw [List.length_map, hl]] at this
      simp only [Rows.uptoBulk]; omega
end
end Go.Proofs.Ytlmnagakgchpdaa
