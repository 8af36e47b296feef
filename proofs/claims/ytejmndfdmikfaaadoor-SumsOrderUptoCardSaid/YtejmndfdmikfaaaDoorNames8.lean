/- sums.names: a map's names, rising. -/
import Derived.Test.YtejmndfdmikfaaaDoorProg
import Derived.Test.YtejmndfdmikfaaaDoorSort
import Derived.Test.YtejmndfdmikfaaaDoorApplyM
import Derived.Test.YtejmndfdmikfaaaDoorRange
namespace Go.Proofs.YtejmndfdmikfaaaDoor.Kit
open Go Go.RowKit

def lenV : Value → Nat
  | .slice _ n _ => n
  | _ => 0
theorem rise_of_sorted {l : List (List UInt8)} (hs : l.Pairwise (· ≤ ·)) (hn : l.Nodup) : l.Pairwise (· < ·) := by
  refine (List.pairwise_and_iff.2 ⟨hs, hn⟩).imp fun {a b} h => ?_
  exact Classical.byContradiction fun hn => h.2 (List.le_antisymm h.1 (List.not_lt.1 hn))
/-- What names answers: the names at which something stands, rising. -/
def NamesPost (w : World) (F : List UInt8 → Int) (e : Ending) (w' : World) : Prop :=
  ∃ A c N, e = .returned (.slice A (List.length N) c) ∧ N.Pairwise (· < ·) ∧ (∀ n, n ∈ N ↔ F n ≠ 0) ∧ Own w' 9 1 A c N.length (N.map sv) ∧ New w w' ∧ ∀ k, Bk A k → w.heap.size ≤ k
set_option maxRecDepth 100000 in
set_option maxHeartbeats 2000000 in
theorem namesI_calls (w : World) (b : Nat) (l : Prs) (F : List UInt8 → Int) (hm : SMap w b l) (hT : IsT l F) (hlen : l.length ≤ 1099511627776) :
    Calls Tryd.prog 37 #[.map (some b)] w (NamesPost w F) := by
  have ht := Tryd.underlying70
  obtain ⟨it, hr, hR⟩ := run_range (P := Tryd.prog) ht hm
  have hbl := hm.lt
  have HX := Lib.hid (And.intro hT (And.intro hR hm))
  clear hT hR ht hm
  go_enter Tryd.func37, Tryd.ntmps37
  go_wp2
  go_loopw [3] (fun v wr => ∃ (A1 : Option Addr) (c1 : Nat) (ss : List (List UInt8)) (todo : Prs), v = .slice A1 ss.length c1 ∧ ss.length ≤ l.length ∧ Hid (Own wr 9 1 A1 c1 ss.length (ss.map sv) ∧ Rng wr b w.heap.size todo ∧ (ss ++ todo.map (·.1)).Perm (l.map (·.1)) ∧ New w wr ∧ (∀ k, Bk A1 k → w.heap.size ≤ k) ∧ w.heap.size < wr.heap.size)) (fun v _ => l.length - lenV v)
  case atStart =>
    exact ⟨none, 0, [], l, rfl, Nat.zero_le _, Lib.hid ⟨Own.nil _ _ _, HX.out.2.1, List.Perm.refl _, Kp.alloc _ _ _, fun k h => absurd h Bk.none_, by simp⟩⟩
  case round =>
    obtain ⟨A1, c1, ss, todo, rfl, hle, HI⟩ := hrel
    have hcells : ∀ k, Bk A1 k → ∃ cs e fr, wr.heap[k]? = some (.cells cs e fr) := fun k hk => by
      rcases HI.out.1.2 with ⟨rfl, _⟩ | ⟨g, cur, rfl, hg, _⟩
      · exact absurd hk Bk.none_
      · obtain rfl : g = k := Bk.some_.1 hk
        exact ⟨_, _, _, hg⟩
    have hrb : ¬ Bk A1 w.heap.size ∧ ¬ Bk A1 b := by
      obtain ⟨es, clock, l', seen, c0, q1, q2, q3, _⟩ := HI.out.2.1
      refine ⟨fun h => ?_, fun h => ?_⟩
      · obtain ⟨cs, e, fr, hc⟩ := hcells _ h
        rw [q3] at hc
        cases hc
      · obtain ⟨cs, e, fr, hc⟩ := hcells _ h
        rw [q1] at hc
        cases hc
    rcases run_next (P := Tryd.prog) HI.out.2.1 (by omega) with ⟨h0, hn⟩ | ⟨t1, x, t2, w', hto, hn, hR', hk', hen⟩
    · have hperm : ss.Perm (l.map (·.1)) := by have := HI.out.2.2.1; rw [h0] at this; simpa using this
      have HP := Lib.hid hperm
      clear h0 hperm hcells hrb
      go_wp2_with fail
      refine (sort_calls wr A1 c1 ss.length ss HI.out.1 rfl (by omega)).mono ?_
      rintro e w2 ⟨rfl, ho, hk⟩
      have HS := Lib.hid (And.intro ho hk)
      clear ho hk
      go_wp2_with fail
      go_ret
      have hl : ss.length = (sortN ss).length := by simp [sortN]
      have hnd : (sortN ss).Nodup := (sortN_perm ss).nodup_iff.2 (HP.out.nodup_iff.2 HX.out.1.1)
      refine ⟨A1, c1, sortN ss, by rw [← hl]; rfl, rise_of_sorted (sortN_sorted ss) hnd, fun n => ?_, by rw [← hl]; exact HS.out.1, HI.out.2.2.2.1.trans HS.out.2 (fun _ _ h => h) (fun k hk hb => by have := HI.out.2.2.2.2.1 k hb; omega), HI.out.2.2.2.2.1⟩
      rw [(sortN_perm ss).mem_iff, HP.out.mem_iff]
      exact HX.out.1.key
    · have hlen2 : ss.length + (t1.length + t2.length + 1) = l.length := by
        have := HI.out.2.2.1.length_eq
        rw [hto] at this
        simp at this
        omega
      have hO' : Own w' 9 1 A1 c1 ss.length (ss.map sv) := HI.out.1.kp hk' (fun k hb e => hrb.1 (e ▸ hb))
      have hn' : New w w' := HI.out.2.2.2.1.trans hk' (fun _ _ h => h) (fun k hk e => by omega)
      have hz' := hk'.size
      have HN := Lib.hid (And.intro hto (And.intro hR' (And.intro hk' (And.intro hO' (And.intro hn' hrb)))))
      clear hto hR' hk' hO' hn' hcells hrb
      go_wp2_with (at_builtin; refine wpList_append_src _ rfl (.tmp 11) (.tmp 13) 89 89 rfl 9 (.string ⟨#[]⟩) 1 16 Tryd.underlying89 Tryd.info_str rfl A1 c1 ss.length (ss.map sv) rfl (HN.out.2.2.2.1.new (Kp.alloc _ _ _)) _ rfl 1 _ (Src.ofNew _ Tryd.underlying89 #[sv x.1] 9 1 1 1 rfl (by simp [Value.oneCell'])) (by omega) (by omega) ?_; intro A3 c3 w3 h31 h32 h33; have H3 := Lib.hid (And.intro h31 (And.intro h32 h33)); clear h31 h32 h33)
      have hkA : Kp (Bk A1) w' w3 := (Kp.alloc (fun _ => False) w' _).trans H3.out.2.1 (fun _ _ h => h.elim) (fun _ _ h => h)
      have hz3 := hkA.size
      have hbr := HI.out.2.2.2.2.2
      refine ⟨⟨A3, c3, ss ++ [x.1], t1 ++ t2, by simp, by simp; omega, Lib.hid ⟨?_, HN.out.2.1.keep ?_ ?_, ?_, HN.out.2.2.2.2.1.trans hkA (fun _ _ h => h) (fun k hk hb => by have := HI.out.2.2.2.2.1 k hb; omega), fun k hk => ?_, by omega⟩⟩, ?_⟩
      · have := H3.out.1
        rw [List.map_append, List.length_append]
        exact this
      · exact hkA.block b (by have := HI.out.2.2.2.1.size; omega) HN.out.2.2.2.2.2.2
      · exact hkA.block _ (by omega) HN.out.2.2.2.2.2.1
      · refine List.Perm.trans ?_ HI.out.2.2.1
        rw [HN.out.1, List.append_assoc, List.map_append, List.map_append, List.map_cons]
        exact List.Perm.append_left _ (by rw [List.singleton_append]; exact List.perm_middle.symm)
      · rcases H3.out.2.2 k hk with h | h
        · exact HI.out.2.2.2.2.1 k h
        · have h1 : (w'.alloc (.cells #[sv x.1] 9)).heap.size = w'.heap.size + 1 := by simp
          have := HI.out.2.2.2.1.size
          omega
      · simp [lenV]
        omega
set_option maxRecDepth 100000 in
set_option maxHeartbeats 2000000 in
theorem names64_calls (w : World) (b : Nat) (l : Prs) (F : List UInt8 → Int) (hm : SMap w b l) (hT : IsT l F) (hlen : l.length ≤ 1099511627776) :
    Calls Tryd.prog 38 #[.map (some b)] w (NamesPost w F) := by
  have ht := Tryd.underlying68
  obtain ⟨it, hr, hR⟩ := run_range (P := Tryd.prog) ht hm
  have hbl := hm.lt
  have HX := Lib.hid (And.intro hT (And.intro hR hm))
  clear hT hR ht hm
  go_enter Tryd.func38, Tryd.ntmps38
  go_wp2
  go_loopw [3] (fun v wr => ∃ (A1 : Option Addr) (c1 : Nat) (ss : List (List UInt8)) (todo : Prs), v = .slice A1 ss.length c1 ∧ ss.length ≤ l.length ∧ Hid (Own wr 9 1 A1 c1 ss.length (ss.map sv) ∧ Rng wr b w.heap.size todo ∧ (ss ++ todo.map (·.1)).Perm (l.map (·.1)) ∧ New w wr ∧ (∀ k, Bk A1 k → w.heap.size ≤ k) ∧ w.heap.size < wr.heap.size)) (fun v _ => l.length - lenV v)
  case atStart =>
    exact ⟨none, 0, [], l, rfl, Nat.zero_le _, Lib.hid ⟨Own.nil _ _ _, HX.out.2.1, List.Perm.refl _, Kp.alloc _ _ _, fun k h => absurd h Bk.none_, by simp⟩⟩
  case round =>
    obtain ⟨A1, c1, ss, todo, rfl, hle, HI⟩ := hrel
    have hcells : ∀ k, Bk A1 k → ∃ cs e fr, wr.heap[k]? = some (.cells cs e fr) := fun k hk => by
      rcases HI.out.1.2 with ⟨rfl, _⟩ | ⟨g, cur, rfl, hg, _⟩
      · exact absurd hk Bk.none_
      · obtain rfl : g = k := Bk.some_.1 hk
        exact ⟨_, _, _, hg⟩
    have hrb : ¬ Bk A1 w.heap.size ∧ ¬ Bk A1 b := by
      obtain ⟨es, clock, l', seen, c0, q1, q2, q3, _⟩ := HI.out.2.1
      refine ⟨fun h => ?_, fun h => ?_⟩
      · obtain ⟨cs, e, fr, hc⟩ := hcells _ h
        rw [q3] at hc
        cases hc
      · obtain ⟨cs, e, fr, hc⟩ := hcells _ h
        rw [q1] at hc
        cases hc
    rcases run_next (P := Tryd.prog) HI.out.2.1 (by omega) with ⟨h0, hn⟩ | ⟨t1, x, t2, w', hto, hn, hR', hk', hen⟩
    · have hperm : ss.Perm (l.map (·.1)) := by have := HI.out.2.2.1; rw [h0] at this; simpa using this
      have HP := Lib.hid hperm
      clear h0 hperm hcells hrb
      go_wp2_with fail
      refine (sort_calls wr A1 c1 ss.length ss HI.out.1 rfl (by omega)).mono ?_
      rintro e w2 ⟨rfl, ho, hk⟩
      have HS := Lib.hid (And.intro ho hk)
      clear ho hk
      go_wp2_with fail
      go_ret
      have hl : ss.length = (sortN ss).length := by simp [sortN]
      have hnd : (sortN ss).Nodup := (sortN_perm ss).nodup_iff.2 (HP.out.nodup_iff.2 HX.out.1.1)
      refine ⟨A1, c1, sortN ss, by rw [← hl]; rfl, rise_of_sorted (sortN_sorted ss) hnd, fun n => ?_, by rw [← hl]; exact HS.out.1, HI.out.2.2.2.1.trans HS.out.2 (fun _ _ h => h) (fun k hk hb => by have := HI.out.2.2.2.2.1 k hb; omega), HI.out.2.2.2.2.1⟩
      rw [(sortN_perm ss).mem_iff, HP.out.mem_iff]
      exact HX.out.1.key
    · have hlen2 : ss.length + (t1.length + t2.length + 1) = l.length := by
        have := HI.out.2.2.1.length_eq
        rw [hto] at this
        simp at this
        omega
      have hO' : Own w' 9 1 A1 c1 ss.length (ss.map sv) := HI.out.1.kp hk' (fun k hb e => hrb.1 (e ▸ hb))
      have hn' : New w w' := HI.out.2.2.2.1.trans hk' (fun _ _ h => h) (fun k hk e => by omega)
      have hz' := hk'.size
      have HN := Lib.hid (And.intro hto (And.intro hR' (And.intro hk' (And.intro hO' (And.intro hn' hrb)))))
      clear hto hR' hk' hO' hn' hcells hrb
      go_wp2_with (at_builtin; refine wpList_append_src _ rfl (.tmp 11) (.tmp 13) 89 89 rfl 9 (.string ⟨#[]⟩) 1 16 Tryd.underlying89 Tryd.info_str rfl A1 c1 ss.length (ss.map sv) rfl (HN.out.2.2.2.1.new (Kp.alloc _ _ _)) _ rfl 1 _ (Src.ofNew _ Tryd.underlying89 #[sv x.1] 9 1 1 1 rfl (by simp [Value.oneCell'])) (by omega) (by omega) ?_; intro A3 c3 w3 h31 h32 h33; have H3 := Lib.hid (And.intro h31 (And.intro h32 h33)); clear h31 h32 h33)
      have hkA : Kp (Bk A1) w' w3 := (Kp.alloc (fun _ => False) w' _).trans H3.out.2.1 (fun _ _ h => h.elim) (fun _ _ h => h)
      have hz3 := hkA.size
      have hbr := HI.out.2.2.2.2.2
      refine ⟨⟨A3, c3, ss ++ [x.1], t1 ++ t2, by simp, by simp; omega, Lib.hid ⟨?_, HN.out.2.1.keep ?_ ?_, ?_, HN.out.2.2.2.2.1.trans hkA (fun _ _ h => h) (fun k hk hb => by have := HI.out.2.2.2.2.1 k hb; omega), fun k hk => ?_, by omega⟩⟩, ?_⟩
      · have := H3.out.1
        rw [List.map_append, List.length_append]
        exact this
      · exact hkA.block b (by have := HI.out.2.2.2.1.size; omega) HN.out.2.2.2.2.2.2
      · exact hkA.block _ (by omega) HN.out.2.2.2.2.2.1
      · refine List.Perm.trans ?_ HI.out.2.2.1
        rw [HN.out.1, List.append_assoc, List.map_append, List.map_append, List.map_cons]
        exact List.Perm.append_left _ (by rw [List.singleton_append]; exact List.perm_middle.symm)
      · rcases H3.out.2.2 k hk with h | h
        · exact HI.out.2.2.2.2.1 k h
        · have h1 : (w'.alloc (.cells #[sv x.1] 9)).heap.size = w'.heap.size + 1 := by simp
          have := HI.out.2.2.2.1.size
          omega
      · simp [lenV]
        omega
end Go.Proofs.YtejmndfdmikfaaaDoor.Kit
