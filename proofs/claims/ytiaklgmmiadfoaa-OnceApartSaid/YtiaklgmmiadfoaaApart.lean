/- OnceApart: the walk. -/
import Derived.Test.YtiaklgmmiadfoaaPurges
namespace Go.Proofs.Ytiaklgmmiadfoaa
open Go.RowKit Go.Maps Go.WideMaps

/-! ### all that is remembered are words -/
def Words (L : List Ent) : Prop := ∀ p ∈ L, wordB p.1 = true
theorem words_filter {L : List Ent} (h : Words L) (f : Ent → Bool) : Words (L.filter f) := fun p hp => h p (List.mem_filter.1 hp).1
theorem words_room {L : List Ent} (h : Words L) (most n : Int) : Words (roomL L most n) := by
  unfold roomL; split
  · exact h
  · exact words_filter h _
theorem words_use {L : List Ent} (h : Words L) (most : Int) (k : List UInt8) (u n : Int) : Words (useL L most k u n).2 := by
  unfold useL
  cases hw : wordB k
  · simpa using h
  · simp only [Bool.true_eq_false, if_false]
    split
    · exact h
    · cases hl : look L k with
      | some o =>
        dsimp only
        split
        · exact h
        · intro p hp
          rcases (setL_mem hl p).1 hp with rfl | ⟨hp, _⟩
          · exact hw
          · exact h p hp
      | none =>
        dsimp only
        split
        · intro p hp
          rcases List.mem_append.1 hp with hp | hp
          · exact words_room h _ _ p hp
          · obtain rfl : p = (k, u) := by simpa using hp
            exact hw
        · exact words_room h _ _
theorem words_step {L : List Ent} (h : Words L) (most : Int) (x : OpT) : Words (stepL most L x) := by
  unfold stepL
  split
  · exact words_use h _ _ _ _
  · split
    · exact words_filter h _
    · exact h
theorem words_play {L : List Ent} (h : Words L) (most : Int) (l : List OpT) : Words (playL most L l) := by
  unfold playL
  induction l generalizing L with
  | nil => exact h
  | cons x r ih => exact ih (words_step h most x)
theorem words_seen {L : List Ent} (h : Words L) {k : List UInt8} {now : Int} (hs : seenB L k now = true) : wordB k = true := by
  unfold seenB look0 at hs
  have h0 := (lim_bd now).1
  cases hl : look L k with
  | none => rw [hl] at hs; simp at hs; omega
  | some o => exact h _ (look_some hl)
theorem look_set_other {L : List Ent} (hu : Uniq L) {k k' : List UInt8} {o : Int} (hl : look L k' = some o) (hne : k ≠ k') (u : Int) : look (setL L k' u) k = look L k := by
  cases hk : look L k with
  | some v => exact look_of_mem (setL_uniq hu _ _) ((setL_mem hl _).2 (.inr ⟨look_some hk, hne⟩))
  | none =>
    cases hs : look (setL L k' u) k with
    | none => rfl
    | some v =>
      rcases (setL_mem hl _).1 (look_some hs) with e | ⟨hm, _⟩
      · simp at e; exact absurd e.1 hne
      · exact absurd rfl (look_none hk _ hm)
theorem look_app_other {L : List Ent} {k k' : List UInt8} (hne : k ≠ k') (u : Int) : look (L ++ [(k', u)]) k = look L k := by
  unfold look
  rw [List.find?_append]
  have : ([(k', u)] : List Ent).find? (fun p => p.1 == k) = none := by simp; exact fun e => hne e.symm
  rw [this]; simp
/-- A use changes no answer for another identifier at the same instant. -/
theorem use_other {L : List Ent} (hu : Uniq L) (most : Int) {k k' : List UInt8} (hne : k ≠ k') (u now : Int) : seenB (useL L most k' u (lim now)).2 k now = seenB L k now := by
  have hroom : seenB (roomL L most (lim now)) k now = seenB L k now := by
    unfold roomL; split
    · rfl
    · exact seen_purged hu k now
  unfold useL
  split
  · rfl
  · split
    · rfl
    · cases hl : look L k' with
      | some o =>
        dsimp only
        split
        · rfl
        · unfold seenB look0; rw [look_set_other hu hl hne]
      | none =>
        dsimp only
        split
        · rw [← hroom]; unfold seenB look0; rw [look_app_other hne]
        · exact hroom

/-! ### the answers that are kept -/
theorem infoBool : (Try.prog.info? 4).map (fun i => (i.zero, i.size, i.bytes)) = some (some (.bool false), 1, 1) := by kernel_rfl
theorem bool_one (b : Bool) : ∀ u ∈ [Value.bool b], u.oneCell' = true := by intro u hu; simp at hu; subst hu; rfl
def ansV (L : List Ent) (now : Int) (l : List OpT) : List Value := l.map fun y => .bool (seenB L y.id.data.toList now)
structure Ans (w0 w : World) (a : Option Addr) (n cap : Nat) (xs : List Value) : Prop where
  row : w.ownsRow 0 4 1 (.slice a n cap) n xs
  new : ∀ i ∈ fp a, w0.heap.size ≤ i
theorem row_blk {w : World} {e : TypeId} {sz : Nat} {a : Option Addr} {n cap : Nat} {xs : List Value} (h : w.ownsRow 0 e sz (.slice a n cap) n xs) : ∀ i ∈ fp a, ∃ cur, w.heap[i]? = some (.cells cur e (0, 0)) := by
  intro i hi
  rcases h.2 with ⟨h1, h2⟩ | ⟨g, cap', cur, hv, _, hg, _⟩
  · injection h1 with e1; subst e1; simp [fp] at hi
  · injection hv with e1; subst e1
    simp only [fp, List.mem_singleton] at hi
    subst hi
    exact ⟨cur, hg⟩
theorem RegAt.off {w : World} {rb mb : Nat} {most : Int} {L : List Ent} (h : RegAt w rb mb most L) {a : Option Addr} {n cap : Nat} {xs : List Value} (k : w.ownsRow 0 4 1 (.slice a n cap) n xs) : rb ∉ fp a ∧ mb ∉ fp a := by
  obtain ⟨D, ho, _⟩ := h.map
  constructor
  · intro hm
    obtain ⟨cur, hc⟩ := row_blk k _ hm
    rw [h.blk] at hc
    injection hc with hc
    injection hc with _ hc
    exact absurd hc (by decide)
  · intro hm
    obtain ⟨cur, hc⟩ := row_blk k _ hm
    obtain ⟨es, clock, hb, _⟩ := ho
    rw [hb] at hc; cases hc
theorem row_kept {S : List Nat} {w w' : World} {e : TypeId} {sz : Nat} {a : Option Addr} {n cap : Nat} {xs : List Value} (h : w.ownsRow 0 e sz (.slice a n cap) n xs) (k : Kept S w w') (hS : ∀ i ∈ fp a, i ∉ S) : w'.ownsRow 0 e sz (.slice a n cap) n xs := by
  refine ⟨h.1, ?_⟩
  rcases h.2 with hn | ⟨g, cap', cur, hv, hb, hg, rest⟩
  · exact .inl hn
  · have hv' := hv
    injection hv with e1
    exact .inr ⟨g, cap', cur, hv', hb, k.at hg (hS g (by rw [e1]; simp [fp])), rest⟩

set_option maxHeartbeats 1000000 in
set_option maxRecDepth 100000 in
theorem apart_walk {w : World} (most : Int) (_hm : (Lit.int .i64 most).wf = true) {a : Option Addr} {cap : Nat} {l : List OpT} (hl : OpsAt w a l ∧ l.length ≤ cap ∧ cap ≤ maxLen) (x : OpT) (hx : x.id.size ≤ maxLen) :
    Calls Try.prog 6 #[.int .i64 most, .slice a l.length cap, opV x] w fun e w' => e = .returned (.bool true) ∧ Below w.heap.size w w' := by
  obtain ⟨h, hcap, hcm⟩ := hl
  have hf := h.few
  unfold maxLen at hf hcm
  cases hfw : fewB l
  · go_enter Try.func6, Try.ntmps6
    go_wp2_with (first
      | (go_at_call 9; refine (few_start h x).mono ?_; rintro e w0 ⟨rfl, hst⟩; obtain ⟨ho0, ho1, ho2, ho3⟩ := hst.box)
      | (go_at_call 10; refine (alive_any _).mono ?_; rintro e wz ⟨rfl, hkz⟩))
    go_ret
    exact ⟨rfl, (hst.kept.step hkz (by simp)).toBelow (by simp)⟩
  by_cases h100 : (100 : Int) < x.id.size
  · go_enter Try.func6, Try.ntmps6
    go_wp2_with (first
      | (go_at_call 9; refine (few_start h x).mono ?_; rintro e w0 ⟨rfl, hst⟩; obtain ⟨ho0, ho1, ho2, ho3⟩ := hst.box)
      | (go_at_call 10; refine (alive_any _).mono ?_; rintro e wz ⟨rfl, hkz⟩))
    go_ret
    exact ⟨rfl, (hst.kept.step hkz (by simp)).toBelow (by simp)⟩
  by_cases hm : most < 1 ∨ 256 < most
  · go_enter Try.func6, Try.ntmps6
    go_wp2_with (first
      | (go_at_call 9; refine (few_start h x).mono ?_; rintro e w0 ⟨rfl, hst⟩; obtain ⟨ho0, ho1, ho2, ho3⟩ := hst.box)
      | (go_at_call 11; refine (new_no _ hm _).mono ?_; rintro e w' ⟨rfl, rfl⟩)
      | (go_at_call 10; refine (alive_any _).mono ?_; rintro e wz ⟨rfl, hkz⟩))
    go_ret
    exact ⟨rfl, (hst.kept.step hkz (by simp)).toBelow (by simp)⟩
  have hm1 : 1 ≤ most := by omega
  have hm2 : most ≤ 256 := by omega
  have hl25 : l.length ≤ 25 := by simp [fewB] at hfw; omega
  clear hm
  go_enter Try.func6, Try.ntmps6
  go_wp2_with (first
      | (go_at_call 9; refine (few_start h x).mono ?_; rintro e w0 ⟨rfl, hst⟩; obtain ⟨ho0, ho1, ho2, ho3⟩ := hst.box)
      | (go_at_call 11; refine (new_ex _ hm1 hm2 _).mono ?_; rintro e w1 ⟨rb, mb, rfl, hr1, hk1, hrb, hmb⟩; have hlt := hst.lt; have hmn := hid (show w.heap.size ∉ [mb] by simp; omega)))
  have hfar := hid (hst.ops.old hmb)
  have hops := hid (show ∀ wq, Kept [mb] w0 wq → OpsAt wq a l from fun wq hk => hst.ops.keptS hk (fun h0 y hy => by simpa using hfar.out h0 y hy))
  have hbox := hid (show ∀ wq, Kept [mb] w0 wq → OpCells wq w.heap.size 0 x from fun wq hk => hst.box.kept hk hlt hmn.out)
  refine (play_reg hr1 (hops.out _ (hk1.mono (by simp))) hfar.out).mono ?_
  rintro e w2 ⟨rfl, hr2, hk2⟩
  have hkw2 : Kept [mb] w0 w2 := (hk1.mono (by simp)).step hk2 (by simp)
  have hwords := words_play (L := []) (by simp [Words]) most l
  generalize hLd : playL most [] l = L at hr2 hwords
  clear hLd hr1 hk1 hk2
  have HW := hid hwords
  have hu := hid hr2.uniq
  clear hwords
  go_wp2_with fail
  go_loopw [9, 10] (fun v i wr => ∃ (k : Nat) (a' : Option Addr) (cap' : Nat), k ≤ l.length ∧ i = .int .i64 k ∧ v = .slice a' k cap' ∧ Ans w0 wr a' k cap' (ansV L x.now (l.take k)) ∧ RegAt wr rb mb most L ∧ Kept [mb] w0 wr) (fun _ i _ => l.length - (intOf i).toNat)
  case atStart => exact ⟨0, none, 0, Nat.zero_le _, rfl, rfl, ⟨World.ownsRow_nil _ _ _ _, by simp [fp]⟩, hr2, hkw2⟩
  case round =>
    obtain ⟨k, a', cap', hk, rfl, rfl, hans, hr, hkw⟩ := hrel
    clear hr2 hkw2
    by_cases hltk : k < l.length
    · have hOp := hops.out _ hkw
      obtain ⟨b, off, rfl, hb, hc0, hc1, hc2, hc3⟩ := hOp.at hltk
      have hne : b ≠ mb := fun e => hfar.out (by omega) _ rfl e
      have hb0 : b < w0.heap.size := hst.ops.lt hltk
      have hb1 : (0 : Int) ≤ k := by omega
      have hb2 : (k : Int) < l.length := by omega
      have hysz := hOp.sized _ (List.getElem_mem hltk)
      have hsn := hid (show ansV L x.now (l.take (k + 1)) = ansV L x.now (l.take k) ++ [.bool (seenB L l[k].id.data.toList x.now)] by
        unfold ansV; rw [List.take_succ_eq_append_getElem hltk, List.map_append]; rfl)
      have hall := hid (show ∀ wq, Kept [mb] w0 wq → wq.cell? ⟨b, off + k * 4 + 1, none⟩ = some (.string l[k].id) ∧ wq.cell? ⟨w.heap.size, 3, none⟩ = some (.int .i64 x.now) from fun wq hq => by
        obtain ⟨b', off', e, _, h0, h1, h2, h3⟩ := (hops.out wq hq).at hltk
        injection e with e; injection e with e1 e2; subst e1; subst e2
        exact ⟨h1, (hbox.out wq hq).2.2.2⟩)
      generalize l[k] = y at *
      have hk0 := hkw.drew
      have hrd : RegAt wr.drew rb mb most L := hr.kept (S := []) (Kept.refl _ _).drew (by simp) (by simp)
      have hrow0 : wr.drew.ownsRow 0 4 1 (.slice a' k cap') k (ansV L x.now (l.take k)) := hans.row
      have hna := hid (show ∀ i ∈ fp a', i ∉ [mb] from fun i hi => by have := (hr.off hans.row).2; simp; rintro rfl; exact this hi)
      obtain ⟨i0, hi, hz0, hz1, hz2⟩ := info_parts infoBool
      have hansl := hid (show (ansV L x.now (l.take k)).length = k by simp [ansV]; omega)
      clear hc0 hc1 hc2 hc3
      cases hb : seenB L y.id.data.toList x.now
      · have E := hid hb
        clear hb
        go_wp2_with fail
        go_region_held3 (fun w' => w'.cell? ⟨b, off + k * 4 + 1, none⟩ = some (.string y.id) ∧ w'.cell? ⟨w.heap.size, 3, none⟩ = some (.int .i64 x.now))
          (first | (exact hall.out _ hk3) | (exact hall.out _ (hk1.alloc _)) | (exact hall.out _ hk1) | (exact hall.out _ hk0))
          (first
            | (go_at_call 15; refine (seen_to hrd hysz E.out).mono ?_; rintro e w1 ⟨rfl, hr1, hk1'⟩; have hk1 := hk0.step hk1' (by simp); have hrow1 := row_kept hrow0 hk1' hna.out)
            | ((refine step_append_lies _ (by rfl) _ _ _ (by rfl) 0 4 i0 _ 1 1 Try.underlying42 hi hz0 hz1 hz2 (by rfl) (by omega) _ _ _ (by rfl) (hrow1.alloc _) ⟨w1.heap.size, 0, none⟩ 1 1 [.bool false] (by rfl) (by rfl) (cell_one_new _ _ _) (bool_one _) (by omega) (by unfold maxLen; omega) (by omega) (Nat.zero_le _) (w1.heap.size + 1) (by simp) ?_; intro g2 cap2 w3 hown hgrow hat hlt2; have hk3 := (hk1.alloc (.cells #[.bool false] 4 (0, 0))).grown hgrow (fun i hi => .inr (hans.new i (ownBlock_mem hi))); have hr3 := (hr1.kept (S := []) ((Kept.refl _ w1).alloc (.cells #[.bool false] 4 (0, 0))) (by simp) (by simp)).kept (Kept.of_grown hgrow) (fun hm => (hr1.off hrow1).1 (ownBlock_mem (Option.mem_toList.1 hm))) (fun hm => (hr1.off hrow1).2 (ownBlock_mem (Option.mem_toList.1 hm))))))
        obtain ⟨hl1, hx3⟩ := hall.out _ hk3
        have hcell : w3.cell? ⟨g2, k, none⟩ = some (.bool false) := row_cell hown (by rw [List.getElem?_append_right (by rw [hansl.out]; exact Nat.le_refl _), hansl.out]; simp)
        have hs1 := hk1.size
        have hnew : ∀ i ∈ fp (some ⟨g2, 0, none⟩), w0.heap.size ≤ i := by
          intro i hi
          simp only [fp, List.mem_singleton] at hi
          subst hi
          rcases hat with hat | hat
          · exact hans.new _ (ownBlock_mem hat)
          · omega
        go_wp2_with (go_at_call 23; refine (word_any _ _ hysz).mono ?_; rintro e w' ⟨rfl, rfl⟩)
        go_roundw
        case rel => exact ⟨k + 1, some ⟨g2, 0, none⟩, cap2, by omega, by go_num, rfl, ⟨by rw [hsn.out, E.out]; exact hown, hnew⟩, hr3, hk3⟩
        case measure => simp [intOf]; omega
      · have E := hid hb
        have hw0 : wordB y.id.data.toList = true := words_seen HW.out hb
        clear hb
        go_wp2_with fail
        go_region_held3 (fun w' => w'.cell? ⟨b, off + k * 4 + 1, none⟩ = some (.string y.id) ∧ w'.cell? ⟨w.heap.size, 3, none⟩ = some (.int .i64 x.now))
          (first | (exact hall.out _ hk3) | (exact hall.out _ (hk1.alloc _)) | (exact hall.out _ hk1) | (exact hall.out _ hk0))
          (first
            | (go_at_call 15; refine (seen_to hrd hysz E.out).mono ?_; rintro e w1 ⟨rfl, hr1, hk1'⟩; have hk1 := hk0.step hk1' (by simp); have hrow1 := row_kept hrow0 hk1' hna.out)
            | ((refine step_append_lies _ (by rfl) _ _ _ (by rfl) 0 4 i0 _ 1 1 Try.underlying42 hi hz0 hz1 hz2 (by rfl) (by omega) _ _ _ (by rfl) (hrow1.alloc _) ⟨w1.heap.size, 0, none⟩ 1 1 [.bool true] (by rfl) (by rfl) (cell_one_new _ _ _) (bool_one _) (by omega) (by unfold maxLen; omega) (by omega) (Nat.zero_le _) (w1.heap.size + 1) (by simp) ?_; intro g2 cap2 w3 hown hgrow hat hlt2; have hk3 := (hk1.alloc (.cells #[.bool true] 4 (0, 0))).grown hgrow (fun i hi => .inr (hans.new i (ownBlock_mem hi))); have hr3 := (hr1.kept (S := []) ((Kept.refl _ w1).alloc (.cells #[.bool true] 4 (0, 0))) (by simp) (by simp)).kept (Kept.of_grown hgrow) (fun hm => (hr1.off hrow1).1 (ownBlock_mem (Option.mem_toList.1 hm))) (fun hm => (hr1.off hrow1).2 (ownBlock_mem (Option.mem_toList.1 hm))))))
        obtain ⟨hl1, hx3⟩ := hall.out _ hk3
        have hcell : w3.cell? ⟨g2, k, none⟩ = some (.bool true) := row_cell hown (by rw [List.getElem?_append_right (by rw [hansl.out]; exact Nat.le_refl _), hansl.out]; simp)
        have hs1 := hk1.size
        have hnew : ∀ i ∈ fp (some ⟨g2, 0, none⟩), w0.heap.size ≤ i := by
          intro i hi
          simp only [fp, List.mem_singleton] at hi
          subst hi
          rcases hat with hat | hat
          · exact hans.new _ (ownBlock_mem hat)
          · omega
        go_wp2_with (go_at_call 23; refine (word_any _ _ hysz).mono ?_; rintro e w' ⟨rfl, rfl⟩)
        go_roundw
        case rel => exact ⟨k + 1, some ⟨g2, 0, none⟩, cap2, by omega, by go_num, rfl, ⟨by rw [hsn.out, E.out]; exact hown, hnew⟩, hr3, hk3⟩
        case measure => simp [intOf]; omega
    · have e1 : l.take k = l := List.take_of_length_le (by omega)
      rw [e1] at hans
      obtain rfl : k = l.length := by omega
      clear e1 hlt
      obtain ⟨ho20, ho21, ho22, ho23⟩ := hbox.out _ hkw
      go_wp2_with (go_at_call 13; refine (use_reg hr _ hx _ _).mono ?_; rintro e w3 ⟨rfl, hr3, hk3⟩)
      have hoth := hid (show ∀ k : List UInt8, k ≠ x.id.data.toList → seenB (useL L most x.id.data.toList (lim x.till) (lim x.now)).2 k x.now = seenB L k x.now from fun k hne => use_other hu.out most hne _ _)
      have hnow := hid (show wordB x.id.data.toList = false → ∀ L' : List Ent, useL L' most x.id.data.toList (lim x.till) (lim x.now) = (5, L') from fun hw L' => by simp [useL, hw])
      have hrow3 := row_kept hans.row hk3 (fun i hi => by have := (hr.off hans.row).2; simp; rintro rfl; exact this hi)
      have hnew3 := hid hans.new
      have hkw3 := hkw.step hk3 (by simp)
      generalize (useL L most x.id.data.toList (lim x.till) (lim x.now)).2 = L2 at hr3 hoth
      clear hr hk3 hans hkw ho20 ho21 ho22 ho23
      go_loopw [11] (fun i wq => ∃ k : Nat, k ≤ l.length ∧ i = .int .i64 k ∧ RegAt wq rb mb most L2 ∧ wq.ownsRow 0 4 1 (.slice a' l.length cap') l.length (ansV L x.now l) ∧ Kept [mb] w0 wq) (fun i _ => l.length - (intOf i).toNat)
      case atStart => exact ⟨0, Nat.zero_le _, rfl, hr3, hrow3, hkw3⟩
      case round =>
        obtain ⟨k, hk, rfl, hrg, hrow, hkw⟩ := hrel
        clear hr3 hrow3 hkw3
        by_cases hltk : k < l.length
        · have hOp := hops.out _ hkw
          obtain ⟨ho20, ho21, ho22, ho23⟩ := hbox.out _ hkw
          obtain ⟨b, off, rfl, hb, hc0, hc1, hc2, hc3⟩ := hOp.at hltk
          have hb1 : (0 : Int) ≤ k := by omega
          have hb2 : (k : Int) < l.length := by omega
          have hysz := hOp.sized _ (List.getElem_mem hltk)
          have hrq : ∀ n, RegAt (wr.drewN n) rb mb most L2 := fun n => hrg.kept ((Kept.refl [] wr).drewN n) (by simp) (by simp)
          obtain ⟨g, rfl⟩ : ∃ g, a' = some ⟨g, 0, none⟩ := by
            obtain ⟨g, _, e, _⟩ := row_some hrow (by omega)
            exact ⟨g, e⟩
          have hcell : wr.cell? ⟨g, k, none⟩ = some (.bool (seenB L l[k].id.data.toList x.now)) := row_cell hrow (by unfold ansV; simp [hltk])
          generalize l[k] = y at *
          by_cases e : y.id.data.toList = x.id.data.toList
          · have ey : y.id = x.id := by
              exact ByteArray.ext (by simpa using e)
            rw [ey] at hc1 hysz hcell
            clear e ey
            go_wp2_with fail
            go_quiet (fail)
            go_wp2_with fail
            go_roundw
            case rel => exact ⟨k + 1, by omega, by go_num, hrq _, row_drewN hrow _, hkw.drewN _⟩
            case measure => simp [intOf]; omega
          · have e1 : (y.id.toList == x.id.toList) = false := by rw [ByteArray.toList_eq, ByteArray.toList_eq]; simpa using e
            have E := hid (hoth.out _ e)
            clear e
            go_wp2_with fail
            go_quiet ((go_at_call 15; exact Calls.quiet_of (seenq (hrq _) hysz E.out)))
            go_wp2_with fail
            go_roundw
            case rel => exact ⟨k + 1, by omega, by go_num, hrq _, row_drewN hrow _, hkw.drewN _⟩
            case measure => simp [intOf]; omega
        · obtain ⟨ho20, ho21, ho22, ho23⟩ := hbox.out _ hkw
          have hlen := hrg.len
          cases hw : wordB x.id.data.toList
          · have E := hid (hnow.out hw L2)
            go_wp2_with (first
              | (go_at_call 19; refine (len_reg hrg).mono ?_; rintro e w' ⟨rfl, rfl⟩)
              | (go_at_call 23; refine (word_any _ _ hx).mono ?_; rintro e w' ⟨rfl, rfl⟩)
              | (go_at_call 13; refine (use_to hrg hx E.out).mono ?_; rintro e w5 ⟨rfl, hr5, hk5⟩)
              | (go_at_call 10; refine (alive_any _).mono ?_; rintro e wz ⟨rfl, hkz⟩))
            go_ret
            exact ⟨rfl, (hst.kept.trans ((hkw.step hk5 (by simp)).step hkz (by simp)) (by have := hst.lt; simp; omega)).toBelow (by simp)⟩
          · go_wp2_with (first
              | (go_at_call 19; refine (len_reg hrg).mono ?_; rintro e w' ⟨rfl, rfl⟩)
              | (go_at_call 23; refine (word_any _ _ hx).mono ?_; rintro e w' ⟨rfl, rfl⟩)
              | (go_at_call 10; refine (alive_any _).mono ?_; rintro e wz ⟨rfl, hkz⟩))
            go_ret
            exact ⟨rfl, (hst.kept.trans (hkw.step hkz (by simp)) (by have := hst.lt; simp; omega)).toBelow (by simp)⟩
end Go.Proofs.Ytiaklgmmiadfoaa
