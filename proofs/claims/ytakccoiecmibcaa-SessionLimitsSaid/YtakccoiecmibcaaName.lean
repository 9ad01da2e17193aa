/- SessionLimits: name; Get of nil sessions. -/
import Derived.Test.YtakccoiecmibcaaLim
import Derived.Laws.IdiomStrings
namespace Go.Proofs.Ytakccoiecmibcaa
open Go.RowKit Go.Maps
set_option maxHeartbeats 1000000 in
set_option maxRecDepth 100000 in
theorem name_any (i : Nat) (hi : i < 300) (w : World) :
    Calls Try.prog 10 #[.int .i64 i] w fun e w' => e = .returned (.string ⟨(nameS i).toArray⟩) ∧ Kept [] w w' := by
  have hb1 : (0 : Int) ≤ i := by omega
  have hb2 : (i : Int) < 300 := by omega
  have hbx := heap_alloc_new w (.cells #[.int .u8 (97 + (i : Int) / 26 % 26), .int .u8 (97 + (i : Int) % 26)] 5 (0, 0))
  have n1 : ((UInt8.ofNat (97 + i / 26 % 26)).toNat : Int) = 97 + (i : Int) / 26 % 26 := by simp; omega
  have n2 : ((UInt8.ofNat (97 + i % 26)).toNat : Int) = 97 + (i : Int) % 26 := by simp; omega
  have hcv := run_convert_bytes_back (P := Try.prog) (w.alloc (.cells #[.int .u8 (97 + (i : Int) / 26 % 26), .int .u8 (97 + (i : Int) % 26)] 5 (0, 0))) 72 9 5 ⟨w.heap.size, 0, none⟩ 2 [UInt8.ofNat (97 + i / 26 % 26), UInt8.ofNat (97 + i % 26)] Try.underlying72 Try.underlying5 Try.underlying9 (fun j hj => by
    rw [add_none, Nat.zero_add]
    match j, hj with
    | 0, _ => rw [cell_at hbx]; show some (Value.int .u8 (97 + (i : Int) / 26 % 26)) = some (Value.int .u8 ((UInt8.ofNat (97 + i / 26 % 26)).toNat : Int)); rw [n1]
    | 1, _ => rw [cell_at hbx]; show some (Value.int .u8 (97 + (i : Int) % 26)) = some (Value.int .u8 ((UInt8.ofNat (97 + i % 26)).toNat : Int)); rw [n2]
    | j + 2, h => exact absurd h (by simp))
  obtain ⟨p, hp⟩ : ∃ p, Hid (UInt8.ofNat (97 + i / 26 % 26) = p) := ⟨_, hid rfl⟩
  obtain ⟨q, hq⟩ : ∃ q, Hid (UInt8.ofNat (97 + i % 26) = q) := ⟨_, hid rfl⟩
  rw [hp.out, hq.out] at hcv
  have HN := hid (show nameS i = [110, p, q] by unfold nameS; rw [hp.out, hq.out])
  rw [HN.out]
  change (convert 72 9 (.slice (some ⟨w.heap.size, 0, none⟩) 2 2)).run Try.prog _ = _ at hcv
  clear n1 n2 hbx
  go_enter Try.func10, Try.ntmps10
  go_wp2_with fail
  go_ret
  have e : (⟨#[110]⟩ ++ ⟨#[p, q]⟩ : ByteArray) = ⟨#[110, p, q]⟩ := ByteArray.ext (by simp)
  exact ⟨congrArg (fun x => Ending.returned (Value.string x)) e, (Kept.refl [] w).alloc _⟩
set_option maxHeartbeats 4000000 in
set_option maxRecDepth 100000 in
theorem get_nil (s : ByteArray) (now : Int) (w : World) :
    Calls Try.prog 13 #[.pointer none, .string s, .int .i64 now] w fun e w' => Got w w' e ([], zs) 1 := by
  have hk0 := (Kept.refl [] w).alloc (.cells #[.string ⟨#[]⟩, .string ⟨#[]⟩, .string ⟨#[]⟩, .string ⟨#[]⟩, .int .i64 0, .int .i64 0, .int .i64 0, .slice none 0 0, .slice none 0 0] 33 (0, 0))
  have hb0 := heap_alloc_new w (.cells #[.string ⟨#[]⟩, .string ⟨#[]⟩, .string ⟨#[]⟩, .string ⟨#[]⟩, .int .i64 0, .int .i64 0, .int .i64 0, .slice none 0 0, .slice none 0 0] 33 (0, 0))
  obtain ⟨w0, HW0⟩ : ∃ w0, Hid (w0 = w.alloc (.cells #[.string ⟨#[]⟩, .string ⟨#[]⟩, .string ⟨#[]⟩, .string ⟨#[]⟩, .int .i64 0, .int .i64 0, .int .i64 0, .slice none 0 0, .slice none 0 0] 33 (0, 0))) := ⟨_, hid rfl⟩
  rw [← HW0.out] at hk0 hb0
  have HK0 := hid hk0
  have HF := hid (find_nil s now w0)
  obtain ⟨a0, a1, a2, a3, a4, a5, a6, a7, a8, f0, f1, f2, f3, f4, f5, f6, f7, f8⟩ := nine_cells hb0
  clear hk0 hb0
  go_enter Try.func13, Try.ntmps13
  go_wp2_with fail
  rw [← HW0.out]
  refine HF.out.mono ?_
  rintro e w1 ⟨rfl, rfl⟩
  go_wp2_with fail
  refine bodyPost_ret (v := .tuple #[.agg #[.string ⟨#[]⟩, .string ⟨#[]⟩, .string ⟨#[]⟩, .string ⟨#[]⟩, .int .i64 0, .int .i64 0, .int .i64 0, .slice none 0 0, .slice none 0 0], .int .i64 1]) (by simp [results, Try.results13, go_sem, a0, a1, a2, a3, a4, a5, a6, a7, a8]) rfl ?_
  refine ⟨none, 0, none, 0, rfl, list_nil _ _, list_nil _ _, by simp [fp], by simp [fp], ?_⟩
  exact ((HK0.out.mono (T := [w.heap.size]) (by simp)).step (kept9 w.heap.size w0 (.string ⟨#[]⟩) (.string ⟨#[]⟩) (.string ⟨#[]⟩) (.string ⟨#[]⟩) (.int .i64 0) (.int .i64 0) (.int .i64 0) (.slice none 0 0) (.slice none 0 0)) (fun _ hi => hi)).mono (fun i hi => .inr (by simp at hi; omega))
end Go.Proofs.Ytakccoiecmibcaa
