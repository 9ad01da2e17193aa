/- The program's profiles: contracts. -/
import Derived.Test.YtbcbffmbpoffpaaStr2
import Derived.Test.YtbcbffmbpoffpaaSig
import Derived.Test.YtbcbffmbpoffpaaRaw
namespace Go.Proofs.Ytbcbffmbpoffpaa
open Go.RowKit Go.Maps

theorem lawS : Keyed Try.prog 9 := string_keyed Try.underlying9
structure Prof where
  dev : List Str
  pl : List Str
  at_ : Int
def prof0 : Prof := ⟨[], [], 0⟩
abbrev Users := List (Str × Prof)
/-- A profile's value, and its lists in memory. -/
def HasProf (w : World) (v : Value) (p : Prof) : Prop := ∃ a1 c1 a2 c2, v = .agg #[.slice a1 p.dev.length c1, .slice a2 p.pl.length c2, .int .i64 p.at_] ∧ StrsB w a1 p.dev ∧ StrsB w a2 p.pl
theorem HasProf.kept {S : List Nat} {w w' : World} {v : Value} {p : Prof} (h : HasProf w v p) (k : Kept S w w') (hS : NoStr w S) : HasProf w' v p := by
  obtain ⟨a1, c1, a2, c2, e, h1, h2⟩ := h
  exact ⟨a1, c1, a2, c2, e, h1.kept k hS, h2.kept k hS⟩
def zeroP : Value := .agg #[.slice none 0 0, .slice none 0 0, .int .i64 0]
theorem zeroP_run (w : World) : (zeroValue 69).run Try.prog w = .ok zeroP w := by kernel_rfl
theorem hasProf0 (w : World) : HasProf w zeroP prof0 := ⟨none, 0, none, 0, rfl, StrsB.nil w, StrsB.nil w⟩
/-- What stands at a user; nothing if nothing does. -/
def prof (U : Users) (k : Str) : Prof := (alook U k).getD prof0
/-- What may be said of each profile. -/
def Fits (p : Prof) : Prop := 1 ≤ p.dev.length ∧ p.dev.length ≤ 16 ∧ 1 ≤ p.pl.length ∧ p.pl.length ≤ 16 ∧ 0 ≤ p.at_ ∧ p.at_ ≤ 1099511627776
def AllFit (U : Users) : Prop := ∀ k p, alook U k = some p → Fits p
/-- Profiles in memory. -/
structure ProfsAt (w : World) (pb mb : Nat) (U : Users) : Prop where
  blk : w.heap[pb]? = some (.cells #[.map (some mb)] 63 (0, 0))
  map : ∃ L, RawMap Try.prog 9 w mb L ∧ L.length = U.length ∧ ∀ k, (∀ p, alook U k = some p → ∃ v, rlook L k = some v ∧ HasProf w v p) ∧ (alook U k = none → rlook L k = none)
  len : U.length ≤ 256
  fit : AllFit U
  uniq : AUniq U
theorem nostr_map {w : World} {mb : Nat} {L : List REnt} (h : RawMap Try.prog 9 w mb L) : NoStr w [mb] := by
  intro i hi cur hc
  simp at hi
  subst hi
  obtain ⟨es, c, hm⟩ := h.blk
  rw [hm] at hc
  cases hc
theorem ProfsAt.kept {S : List Nat} {w w' : World} {pb mb : Nat} {U : Users} (h : ProfsAt w pb mb U) (k : Kept S w w') (h1 : pb ∉ S) (h2 : mb ∉ S) (hS : NoStr w S) : ProfsAt w' pb mb U := by
  obtain ⟨L, hm, hl, hp⟩ := h.map
  refine ⟨k.at h.blk h1, ⟨L, hm.kept k h2, hl, fun x => ⟨fun p hx => ?_, (hp x).2⟩⟩, h.len, h.fit, h.uniq⟩
  obtain ⟨v, hv, hh⟩ := (hp x).1 p hx
  exact ⟨v, hv, hh.kept k hS⟩
theorem nostr_nil (w : World) : NoStr w [] := by intro i hi; simp at hi
theorem ProfsAt.keptN {w w' : World} {pb mb : Nat} {U : Users} (h : ProfsAt w pb mb U) (k : Kept [] w w') : ProfsAt w' pb mb U := h.kept k (by simp) (by simp) (nostr_nil w)
theorem ProfsAt.c0 {w : World} {pb mb : Nat} {U : Users} (h : ProfsAt w pb mb U) : w.cell? ⟨pb, 0, none⟩ = some (.map (some mb)) := by rw [cell_at h.blk]; rfl
theorem ProfsAt.look {w : World} {pb mb : Nat} {U : Users} (h : ProfsAt w pb mb U) (s : ByteArray) (hs : s.size ≤ maxLen) : ∃ v, HasProf w v (prof U s.data.toList) ∧
    (Instr.lookup 61 (.map (some mb)) (.string s) true).run Try.prog w = .ok (.tuple #[v, .bool (alook U s.data.toList).isSome]) w ∧
    (Instr.lookup 61 (.map (some mb)) (.string s) false).run Try.prog w = .ok v w := by
  obtain ⟨L, hm, hl, hp⟩ := h.map
  have h1 := hm.look_ok lawS Try.underlying9 Try.underlying61 (zeroP_run w) s hs
  have h2 := hm.look lawS Try.underlying9 Try.underlying61 (zeroP_run w) s hs
  unfold prof
  cases hu : alook U s.data.toList with
  | none =>
    rw [(hp _).2 hu] at h1 h2
    exact ⟨zeroP, hasProf0 w, h1, h2⟩
  | some p =>
    obtain ⟨v, hv, hh⟩ := (hp _).1 p hu
    rw [hv] at h1 h2
    exact ⟨v, hh, h1, h2⟩
theorem ProfsAt.lenrun {w : World} {pb mb : Nat} {U : Users} (h : ProfsAt w pb mb U) (ty : TypeId) : (Builtin.len_ #[61] ty #[.map (some mb)]).run Try.prog w = .ok (.int .i64 U.length) w := by
  obtain ⟨L, hm, hl, hp⟩ := h.map
  rw [hm.len Try.underlying61 ty, hl]
theorem ProfsAt.put {w : World} {pb mb : Nat} {U : Users} (h : ProfsAt w pb mb U) (s : ByteArray) (hs : s.size ≤ maxLen) {v : Value} {p : Prof} (hv : HasProf w v p) (hf : Fits p) (hl : (alook U s.data.toList).isSome ∨ U.length < 256) :
    ∃ w', (Instr.mapUpdate 61 (.map (some mb)) (.string s) v).run Try.prog w = .ok () w' ∧ ProfsAt w' pb mb (aput U s.data.toList p) ∧ Kept [mb] w w' := by
  obtain ⟨L, hm, hll, hp⟩ := h.map
  have hlen := h.len
  obtain ⟨w', hr, hm', hk, _⟩ := hm.put lawS Try.underlying9 Try.underlying61 (by unfold maxLen; omega) s hs v
  have hns := nostr_map hm
  have hsome : (rlook L s.data.toList).isSome = (alook U s.data.toList).isSome := by
    cases hu : alook U s.data.toList with
    | none => rw [(hp _).2 hu]; rfl
    | some p => obtain ⟨v, hv, _⟩ := (hp _).1 p hu; rw [hv]; rfl
  refine ⟨w', hr, ⟨hk.at h.blk (by simpa using hm.ne h.blk), ⟨_, hm', ?_, fun k => ?_⟩, ?_, fun k q hq => ?_, aput_uniq h.uniq _ _⟩, hk⟩
  · rw [rput_eq, aput_len, aput_len, ← rlook_eq, hsome, hll]
  · rw [rput_eq, rlook_eq, alook_put, alook_put]
    by_cases hkk : s.data.toList = k
    · simp only [if_pos hkk]
      exact ⟨fun q hq => by injection hq with hq; subst hq; exact ⟨v, rfl, hv.kept hk hns⟩, fun hn => by cases hn⟩
    · simp only [if_neg hkk]
      exact ⟨fun q hq => by obtain ⟨u, hu, hh⟩ := (hp k).1 q hq; exact ⟨u, hu, hh.kept hk hns⟩, (hp k).2⟩
  · rw [aput_len]
    split
    · omega
    · rcases hl with hl | hl
      · rename_i hn; exact absurd hl hn
      · omega
  · rw [alook_put] at hq
    split at hq
    · injection hq with hq; subst hq; exact hf
    · exact h.fit k q hq
theorem ProfsAt.drop {w : World} {pb mb : Nat} {U : Users} (h : ProfsAt w pb mb U) (s : ByteArray) (hs : s.size ≤ maxLen) (ty : TypeId) :
    ∃ w', (Builtin.delete_ #[61, 9] ty #[.map (some mb), .string s]).run Try.prog w = .ok (.tuple #[]) w' ∧ ProfsAt w' pb mb (adel U s.data.toList) ∧ Kept [mb] w w' := by
  obtain ⟨L, hm, hll, hp⟩ := h.map
  have hu := h.uniq
  have hlen := h.len
  obtain ⟨w', hr, hm', hk, _⟩ := hm.drop lawS Try.underlying9 Try.underlying61 ty s hs
  have hns := nostr_map hm
  have hsome : (rlook L s.data.toList).isSome = (alook U s.data.toList).isSome := by
    cases hu : alook U s.data.toList with
    | none => rw [(hp _).2 hu]; rfl
    | some p => obtain ⟨v, hv, _⟩ := (hp _).1 p hu; rw [hv]; rfl
  refine ⟨w', hr, ⟨hk.at h.blk (by simpa using hm.ne h.blk), ⟨_, hm', ?_, fun k => ?_⟩, ?_, fun k q hq => ?_, hu.adel _⟩, hk⟩
  · rw [rdel_eq, adel_len hm.uniq, adel_len hu, ← rlook_eq, hsome, hll]
  · rw [rdel_eq, rlook_eq, alook_del, alook_del]
    by_cases hkk : s.data.toList = k
    · simp only [if_pos hkk]
      exact ⟨fun q hq => (by cases hq), fun _ => trivial⟩
    · simp only [if_neg hkk]
      exact ⟨fun q hq => by obtain ⟨u, hu, hh⟩ := (hp k).1 q hq; exact ⟨u, hu, hh.kept hk hns⟩, (hp k).2⟩
  · rw [adel_len hu]; split <;> omega
  · rw [alook_del] at hq
    split at hq
    · cases hq
    · exact h.fit k q hq

set_option maxHeartbeats 400000 in
theorem new_prof (w : World) :
    Calls Try.prog 16 #[] w fun e w' => e = .returned (.pointer (some ⟨w.heap.size + 1, 0, none⟩)) ∧ ProfsAt w' (w.heap.size + 1) w.heap.size [] ∧ Kept [] w w' ∧ w'.heap.size = w.heap.size + 2 := by
  have hmm := @run_makeMap Try.prog
  go_enter Try.func16, Try.ntmps16
  go_wp2
  go_ret
  refine ⟨rfl, ⟨?_, ⟨[], (RawMap.made w).kept ((Kept.refl [] _).alloc _) (by simp), rfl, fun k => ⟨fun p hp => by simp [alook] at hp, fun _ => rfl⟩⟩, by simp, fun k p hp => by simp [alook] at hp, List.Pairwise.nil⟩, ((Kept.refl [] w).alloc _).alloc _, by simp⟩
  have := heap_alloc_new (w.alloc (.map #[] 0)) (.cells #[.map (some w.heap.size)] 63 (0, 0))
  simpa using this
set_option maxHeartbeats 400000 in
theorem ready_any {w : World} {pb mb : Nat} (c0 : w.cell? ⟨pb, 0, none⟩ = some (.map (some mb))) :
    Calls Try.prog 36 #[.pointer (some ⟨pb, 0, none⟩)] w fun e w' => e = .returned (.bool true) ∧ w = w' := by
  have hn : ∀ (w : World) (r : Option Nat), (binOp .neq 61 (.map r) (.map none)).run Try.prog w = .ok (.bool (!r.isNone)) w := fun w r => run_neq_map_nil w _ _ _ r Try.underlying61
  go_enter Try.func36, Try.ntmps36
  go_wp2
  go_ret
  exact ⟨rfl, rfl⟩
end Go.Proofs.Ytbcbffmbpoffpaa
