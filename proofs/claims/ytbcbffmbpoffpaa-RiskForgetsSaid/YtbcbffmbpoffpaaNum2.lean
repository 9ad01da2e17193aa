/- The program's Score: contracts. -/
import Derived.Test.YtbcbffmbpoffpaaNum
namespace Go.Proofs.Ytbcbffmbpoffpaa
open Go.RowKit Go.Lib

/-- Three words hold a number. -/
def WideIs (h l c V : Int) (k : Nat) : Prop := 0 ≤ h ∧ h < 72057594037927936 ∧ 0 ≤ l ∧ l < 18446744073709551616 ∧ -(200 * (k : Int)) ≤ c ∧ c ≤ 200 * (k : Int) ∧ c * 1329227995784915872903807060280344576 + h * 18446744073709551616 + l = V
def WideOut (w w' : World) (e : Ending) (V : Int) (k : Nat) : Prop := ∃ h l c, e = .returned (.agg #[.int .u64 h, .int .u64 l, .int .i64 c]) ∧ WideIs h l c V k ∧ Kept [] w w'
theorem WideIs.zero : WideIs 0 0 0 0 0 := by unfold WideIs; omega

theorem prod_bd (a b : Int) (h1 : -9223372036854775808 ≤ a) (h2 : a ≤ 9223372036854775807) (h3 : -9223372036854775808 ≤ b) (h4 : b ≤ 9223372036854775807) :
    -85070591730234615865843651857942052864 ≤ a * b ∧ a * b ≤ 85070591730234615865843651857942052864 := by
  have ha : a.natAbs ≤ 9223372036854775808 := by omega
  have hb : b.natAbs ≤ 9223372036854775808 := by omega
  have h := Nat.mul_le_mul ha hb
  rw [← Int.natAbs_mul] at h
  omega
theorem wide_plain (h l c V p h' l' : Int) (k : Nat) (hW : WideIs h l c V k) (hp : -85070591730234615865843651857942052864 ≤ p ∧ p ≤ 85070591730234615865843651857942052864) (hS : SumIs h' l' (h * 18446744073709551616 + l + p)) :
    ∃ top, top = (if h' < 9223372036854775808 then h' else h' - 18446744073709551616) / 72057594037927936 ∧ -128 ≤ top ∧ top ≤ 127 ∧ WideIs (h' % 72057594037927936) l' (c + top) (V + p) (k + 1) := by
  obtain ⟨a1, a2, a3, a4, a5, a6, a7⟩ := hW
  obtain ⟨b1, b2, b3, b4, m, b5⟩ := hS
  refine ⟨_, rfl, ?_, ?_, ?_⟩
  · split <;> omega
  · split <;> omega
  · have hm : (h' < 9223372036854775808 ∧ m = 0) ∨ (¬ h' < 9223372036854775808 ∧ m = 1) := by omega
    unfold WideIs
    rcases hm with ⟨e1, e2⟩ | ⟨e1, e2⟩
    · rw [if_pos e1]; subst e2; omega
    · rw [if_neg e1]; subst e2; omega

theorem heap_two (w : World) (A B : Obj) : ((w.alloc A).alloc B).heap[w.heap.size]? = some A ∧ ((w.alloc A).alloc B).heap[w.heap.size + 1]? = some B := by
  refine ⟨(Below.heap_alloc (w.alloc A) B _ (by simp)).trans (heap_alloc_new w A), ?_⟩
  have := heap_alloc_new (w.alloc A) B
  rwa [show (w.alloc A).heap.size = w.heap.size + 1 by simp] at this
set_option maxHeartbeats 1000000 in
theorem wideadd_any (h l c V a b : Int) (k : Nat) (hk : k ≤ 1000) (hW : WideIs h l c V k) (h1 : -9223372036854775808 ≤ a) (h2 : a ≤ 9223372036854775807) (h3 : -9223372036854775808 ≤ b) (h4 : b ≤ 9223372036854775807) (w : World) :
    Calls Try.prog 33 #[.agg #[.int .u64 h, .int .u64 l, .int .i64 c], .int .i64 a, .int .i64 b] w fun e w' => WideOut w w' e (V + a * b) (k + 1) := by
  have HS := hid (fun w => sumadd_any h l a b hW.1 hW.2.2.1 hW.2.2.2.1 h1 h2 h3 h4 w)
  have HW := hid hW
  have HP := hid (prod_bd a b h1 h2 h3 h4)
  have hc : -200000 ≤ c ∧ c ≤ 200000 := by have := hW.2.2.2.2; omega
  obtain ⟨hb1, hb2⟩ := heap_two w (.cells #[.int .u64 h, .int .u64 l, .int .i64 c] 54 (0, 0)) (.cells #[.int .u64 0, .int .u64 0, .int .i64 0] 54 (0, 0))
  have HB1 := hid hb1
  have HB2 := hid hb2
  clear hb1 hb2
  clear hW h1 h2 h3 h4
  go_enter Try.func33, Try.ntmps33
  go_wp2_with fail
  refine (HS.out _).mono ?_
  rintro e w1 ⟨h', l', rfl, hS, k1⟩
  obtain ⟨top, ht, t1, t2, hW2⟩ := wide_plain h l c V _ h' l' k HW.out HP.out hS
  have hx1 := k1.at HB1.out (by simp)
  have hx2 := k1.at HB2.out (by simp)
  have c2 : w1.cell? ⟨w.heap.size, 2, none⟩ = some (.int .i64 c) := by rw [cell_at hx1]; rfl
  have d0 : w1.cell? ⟨w.heap.size + 1, 0, none⟩ = some (.int .u64 0) := by rw [cell_at hx2]; rfl
  have d1 : w1.cell? ⟨w.heap.size + 1, 1, none⟩ = some (.int .u64 0) := by rw [cell_at hx2]; rfl
  have d2 : w1.cell? ⟨w.heap.size + 1, 2, none⟩ = some (.int .i64 0) := by rw [cell_at hx2]; rfl
  have f0 := free_at hx2 0
  have f1 := free_at hx2 1
  have f2 := free_at hx2 2
  have hz : w.heap.size + 2 ≤ w1.heap.size := by simpa using k1.size
  have eT : wrap64 h' / 72057594037927936 = top := by
    rw [ht]
    have := hS.1; have := hS.2.1
    unfold wrap64
    split <;> (congr 1; omega)
  have EU := hid (show IntKind.u64.wrap (h' - IntKind.u64.wrap (IntKind.u64.wrap top * 72057594037927936)) = h' % 72057594037927936 by
    rw [IntKind.wrap_u64, IntKind.wrap_u64, IntKind.wrap_u64]
    have := hS.1; have := hS.2.1
    split at ht <;> omega)
  have hz1 : w.heap.size < w1.heap.size := by omega
  have hz2 : w.heap.size + 1 < w1.heap.size := by omega
  clear hz
  have HW2 := hid hW2
  clear hS hW2 ht hx1 hx2
  go_wp2_with fail
  refine bodyPost_ret (v := .agg #[.int .u64 (IntKind.u64.wrap (h' - IntKind.u64.wrap (IntKind.u64.wrap top * 72057594037927936))), .int .u64 l', .int .i64 (c + top)]) (by simp [results, Try.results33, go_sem, d0, d1, d2, hz2]) rfl ⟨_, _, _, rfl, by rw [EU.out]; exact HW2.out, ?_⟩
  exact (((((((Kept.refl [] w).alloc _).alloc _).step k1 (by simp)).setCell (.inr (by simp)) _).setCell (.inr (by simp)) _).setCell (.inr (by simp)) _).alloc _
end Go.Proofs.Ytbcbffmbpoffpaa
