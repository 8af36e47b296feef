/- daybookkeep: a page of bytes: written full, appended to, looked at. -/
import Derived.Test.YtdgpnpagbhikoaaGreatDoorBookB
import Derived.Test.YtdgpnpagbhikoaaGreatDoorOwn2
namespace Go.Proofs.YtdgpnpagbhikoaaGreatDoor.Kit
open Go Go.RowKit

theorem set_step {p xs : List Value} {k : Nat} {v : Value} (hp : p.length = k) (hk : k < xs.length) : (p ++ xs.drop k).set k v = p ++ [v] ++ xs.drop (k + 1) := by
  subst hp
  rw [List.set_append_right _ _ (Nat.le_refl _), Nat.sub_self, List.drop_eq_getElem_cons hk, List.set_cons_zero, List.append_assoc]
  rfl
/-- What fill leaves. -/
def FillPost (w : World) (h o : Nat) (cur : Array Value) (A : Option Addr) (c n id : Nat) (e : Ending) (w' : World) : Prop :=
  e = .returned (.tuple #[]) ∧ Own w' 5 1 A c n (bcs (marksB id n)) ∧ Kp (fun j => j = h ∨ Bk A j) w w' ∧ w'.heap[h]? = some (.cells (cur.setIfInBounds (o + 4) (.bool true)) 93 (0, 0))

set_option maxHeartbeats 1000000 in
theorem fillB_calls (w : World) (h o : Nat) (cur : Array Value) (A : Option Addr) (c n id : Nat) (b : Bool) (xs : List Value) (hh : w.heap[h]? = some (.cells cur 93 (0, 0)))
    (h0 : cur[o]? = some (.slice A n c)) (h3 : cur[o + 3]? = some (.int .i64 (id : Int))) (h4 : cur[o + 4]? = some (.bool b)) (hA : Own w 5 1 A c n xs) (hne : ¬ Bk A h) (hid : id ≤ 1000000) (hn : n ≤ 1099511627776) :
    Calls Tryz.prog 36 #[.pointer (some ⟨h, o, none⟩)] w (FillPost w h o cur A c n id) := by
  have H := Lib.hid (And.intro hh (And.intro h0 (And.intro h3 (And.intro h4 (And.intro hA hne)))))
  clear hh h0 h3 h4 hA hne
  go_enter Tryz.func36, Tryz.ntmps36
  go_wp2
  go_loopw [2] (fun i wr => ∃ k : Nat, k ≤ n ∧ i = .int .i64 (k : Int) ∧ Hid (Own wr 5 1 A c n (bcs (marksB id k) ++ xs.drop k) ∧ Kp (Bk A) w wr)) (fun i _ => n - (intOf i).toNat)
  case atStart => exact ⟨0, Nat.zero_le _, rfl, Lib.hid ⟨by simpa [marksB, bcs] using H.out.2.2.2.2.1, Kp.refl _ _⟩⟩
  case round =>
    obtain ⟨k, hk, rfl, HI⟩ := hrel
    have hrh : wr.heap[h]? = some (.cells cur 93 (0, 0)) := (HI.out.2.block h (Array.getElem?_eq_some_iff.1 H.out.1).1 H.out.2.2.2.2.2).trans H.out.1
    have f0 : wr.cell? ⟨h, o, none⟩ = some (.slice A n c) := (cell_of_block hrh).trans H.out.2.1
    have f3 : wr.cell? ⟨h, o + 3, none⟩ = some (.int .i64 (id : Int)) := (cell_of_block hrh).trans H.out.2.2.1
    by_cases hlt : k < n
    · obtain ⟨g, rfl⟩ := HI.out.1.some_ (by omega)
      have hxl := H.out.2.2.2.2.1.1
      have hlen : (bcs (marksB id k) ++ xs.drop k).length = n := by have := HI.out.1.1; omega
      obtain ⟨u, hu⟩ : ∃ u, (bcs (marksB id k) ++ xs.drop k)[k]? = some u := ⟨_, List.getElem?_eq_getElem (by omega)⟩
      have fg : wr.cell? ⟨g, k, none⟩ = some u := HI.out.1.cell hu
      have fz : wr.frozen? ⟨g, k, none⟩ = false := HI.out.1.frozen k
      have hki : (k : Int) < n := by omega
      have hk0 : (0 : Int) ≤ k := by omega
      have HR := Lib.hid hrh
      clear hrh hu hlen hxl
      have hmo : Tryz.prog.follows Departure.mixedOrders = true := by kernel_rfl
      go_wp2
      refine wp_region_line (fun w' => w'.cell? ⟨h, o, none⟩ = some (.slice (some ⟨g, 0, none⟩) n c) ∧ w'.cell? ⟨h, o + 3, none⟩ = some (.int .i64 (id : Int))) (pl := [(0, true), (1, true), (2, true), (3, true), (4, true), (5, true), (6, true), (7, true), (8, true), (9, true), (10, false), (11, true), (12, false)]) hmo (by kernel_rfl) ⟨by simpa using f0, by simpa using f3⟩ ?_
      iterate 10 (refine line_get rfl rfl (fun K hK => ?_); apply Exists.intro; refine ⟨fun w hS => ?_, ?_⟩; (first | (have hS' := hS rfl; go_simp; with_reducible rfl) | (go_simp; with_reducible rfl)); (go_simp; refine hK _ ?_; clear hK K))
      (refine line_do rfl rfl (fun K hK => ?_); go_simp)
      refine (markBytes_calls _ id k _ _ rfl rfl hid (by omega)).mono ?_
      rintro e w' ⟨rfl, rfl⟩
      refine hK _ _ (fun _ => ⟨by simpa using f0, by simpa using f3⟩) ?_
      clear hK K
      (refine line_get rfl rfl (fun K hK => ?_); apply Exists.intro; refine ⟨fun w hS => ?_, ?_⟩; (first | (have hS' := hS rfl; go_simp; with_reducible rfl) | (go_simp; with_reducible rfl)); (go_simp; refine hK _ ?_; clear hK K))
      (refine line_do rfl rfl (fun K hK => ?_); go_simp)
      refine hK _ _ (no_need (by kernel_rfl)) ?_
      clear hK K
      refine line_nil ?_
      go_wp2
      refine ⟨⟨k + 1, by omega, by go_num, Lib.hid ⟨?_, ?_⟩⟩, by simp [intOf]; omega⟩
      · have hs : bcs (marksB id (k + 1)) ++ xs.drop (k + 1) = (bcs (marksB id k) ++ xs.drop k).set k (.int .u8 ((markB id k).toNat : Int)) := by
          rw [set_step (by simp [bcs, marksB_length]) (by have := H.out.2.2.2.2.1.1; omega), marksB_snoc, bcs_append]
          rfl
        rw [hs]
        exact (HI.out.1.set k _).new (Kp.drew _ _)
      · exact HI.out.2.trans ((Kp.setCell wr ⟨g, k, none⟩ _ (Bk.some_.2 rfl)).trans (Kp.drew _ _) (fun _ _ h => h) (fun _ _ h => h)) (fun _ _ h => h) (fun _ _ h => h)
    · obtain rfl : k = n := by omega
      have f4 : wr.cell? ⟨h, o + 4, none⟩ = some (.bool b) := (cell_of_block hrh).trans H.out.2.2.2.1
      have fz : wr.frozen? ⟨h, o + 4, none⟩ = false := by simp [World.frozen?, hrh]
      have HR := Lib.hid hrh
      clear hrh
      go_wp2
      go_end0
      refine ⟨rfl, ?_, HI.out.2.trans (Kp.setCell _ _ _ (.inl rfl)) (fun _ _ h => .inr h) (fun _ _ h => h), heap_setCell_row HR.out _⟩
      have := HI.out.1.keep (w' := wr.setCell ⟨h, o + 4, none⟩ (.bool true)) (fun j hj => Below.heap_setCell _ _ _ _ (fun e => H.out.2.2.2.2.2 (by have e' : j = h := e; rw [← e']; exact hj)))
      rwa [List.drop_of_length_le (by have := H.out.2.2.2.2.1.1; omega), List.append_nil] at this
end Go.Proofs.YtdgpnpagbhikoaaGreatDoor.Kit
