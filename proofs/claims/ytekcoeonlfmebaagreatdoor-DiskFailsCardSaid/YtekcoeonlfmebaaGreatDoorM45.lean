/- 1 texts in one: daybooklaw03.first: what must come whatever the script is. -/
import Derived.Test.YtekcoeonlfmebaaGreatDoorM37
import Derived.Lib.SlBytesConst
namespace Go.Proofs.YtekcoeonlfmebaaGreatDoor.Kit
open Go Go.RowKit
def fs1 : DS := ⟨10, [⟨[97], [], 0⟩], -1, false⟩
def fs2 : DS := ⟨10, [⟨[97], [104, 101, 108, 108, 111], 0⟩], -1, false⟩
def fs3 : DS := ⟨10, [⟨[97], [104, 101, 108, 108, 111], 5⟩], -1, false⟩
def fs4 : DS := ⟨10, [⟨[97], [104, 101, 108, 108, 111, 97, 98, 99], 5⟩], -1, false⟩
def fs5 : DS := ⟨10, [⟨[97], [104, 101, 108, 108, 111, 97, 98], 7⟩], -1, false⟩
theorem fe1 : (DS.new 10).create [97] = (0, fs1) := by kernel_rfl
theorem fe2 : fs1.append [97] [104, 101, 108, 108, 111] = (0, fs2) := by kernel_rfl
theorem fe3 : fs2.sync [97] = (0, fs3) := by kernel_rfl
theorem fe4 : fs3.append [97] [97, 98, 99] = (0, fs4) := by kernel_rfl
theorem fe5 : fs4.crash [2] = fs5 := by kernel_rfl
theorem fe6 : fs5.read [97] 0 7 = ([104, 101, 108, 108, 111, 97, 98], 0) := by kernel_rfl
theorem fe7 : fs5.namesOf = [[97]] := by kernel_rfl
theorem fe8 : fs5.used = 7 := by kernel_rfl
theorem rd_row {w : World} {g : Nat} {cs : Array Value} {t : TypeId} {fr : Nat × Nat} {l : List UInt8} (h : w.heap[g]? = some (.cells cs t fr)) (hc : cs.toList = bcs l) : RdB w (some ⟨g, 0, none⟩) l := fun _ => ⟨g, 0, rfl, fun j hj => by
 rw [cell_of_block h, Nat.zero_add, ← Array.getElem?_toList, hc]
 simp [bcs, hj]⟩
theorem New.mv {w a b : World} {F F' : List Nat} (h : New w a) (hF : ∀ k ∈ F, w.heap.size ≤ k) (m : Mv F F' a b) : New w b ∧ ∀ k ∈ F', w.heap.size ≤ k :=
 ⟨Kp.trans h m.1 fid (fun i hi hm => by have := hF i hm; omega), fun k hk => (m.2 k hk).elim (hF k) (fun h2 => by have := Kp.size h; omega)⟩
theorem ChangePost.eq {d : Nat} {F : List Nat} {w : World} {r : Nat × DS} {n : Nat} {s : DS} (hr : r = (n, s)) {e : Ending} {w' : World} (h : ChangePost d F w r e w') : e = .returned (.int .i64 (n : Int)) ∧ ∃ F', DiskAt w' d s F' ∧ Mv F F' w w' := by
 subst hr
 exact h
set_option maxRecDepth 100000 in
set_option maxHeartbeats 4000000 in
theorem first_calls (w : World) : Calls Tryz.prog 12 #[] w fun e w' => e = .returned (.bool true) ∧ New w w' := by
 go_enter Tryz.func12, Tryz.ntmps12
 go_wp2_with fail
 refine (New_calls w 10 10 rfl (by omega)).mono ?_
 rintro e w1 ⟨d, F, rfl, hD, hn, hF⟩
 have H1 := Lib.hid (And.intro hD (And.intro hn hF))
 clear hD hn hF
 go_wp2_with fail
 refine (num_calls _ _).mono ?_
 rintro e x ⟨rfl, rfl⟩
 go_wp2_with fail
 refine (Create_calls _ d _ F [97] H1.out.1 (by decide)).mono ?_
 rintro e w2 h
 obtain ⟨rfl, F2, q1, q2⟩ := h.eq fe1
 have H2 := Lib.hid (And.intro q1 (New.mv H1.out.2.1 H1.out.2.2 q2))
 clear h q1 q2
 go_wp2_with fail
 refine (num_calls _ _).mono ?_
 rintro e x ⟨rfl, rfl⟩
 have kc := fun (w : World) (C : Array Value) (n c : Nat) => Lib.run_convert_bytes_const (P := Tryz.prog) w 55 5 C n c Tryz.underlying55 Tryz.underlying5
 go_wp2_with fail
 obtain ⟨u2, hu2⟩ : ∃ u, w2.alloc (.cells #[.int .u8 104, .int .u8 101, .int .u8 108, .int .u8 108, .int .u8 111] 5 (5, 6)) = u := ⟨_, rfl⟩
 rw [hu2]
 have m2 : New w2 u2 := hu2 ▸ Kp.alloc _ _ _
 have r2 : RdB u2 (some ⟨w2.heap.size, 0, none⟩) [104, 101, 108, 108, 111] := hu2 ▸ rd_row (heap_alloc_new w2 _) rfl
 refine (Append_calls u2 d _ F2 [97] (some ⟨w2.heap.size, 0, none⟩) _ _ [104, 101, 108, 108, 111] (H2.out.1.new m2) (by decide) r2 rfl (by decide) (fun k hk e => by have h1 := Bk.some_.1 hk; have h2 := H2.out.1.lt d H2.out.1.mem; simp at h1; omega)).mono ?_
 rintro e w3 h
 obtain ⟨rfl, F3, q1, q2⟩ := h.eq fe2
 have H3 := Lib.hid (And.intro q1 (New.mv (Kp.trans H2.out.2.1 m2 fid fid) H2.out.2.2 q2))
 clear h q1 q2 m2 r2 hu2
 go_wp2_with fail
 refine (num_calls _ _).mono ?_
 rintro e x ⟨rfl, rfl⟩
 go_wp2_with fail
 refine (Sync_calls _ d _ F3 [97] H3.out.1 (by decide)).mono ?_
 rintro e w4 h
 obtain ⟨rfl, F4, q1, q2⟩ := h.eq fe3
 have H4 := Lib.hid (And.intro q1 (New.mv H3.out.2.1 H3.out.2.2 q2))
 clear h q1 q2
 go_wp2_with fail
 refine (num_calls _ _).mono ?_
 rintro e x ⟨rfl, rfl⟩
 go_wp2_with fail
 obtain ⟨u4, hu4⟩ : ∃ u, w4.alloc (.cells #[.int .u8 97, .int .u8 98, .int .u8 99] 5 (3, 4)) = u := ⟨_, rfl⟩
 rw [hu4]
 have m4 : New w4 u4 := hu4 ▸ Kp.alloc _ _ _
 have r4 : RdB u4 (some ⟨w4.heap.size, 0, none⟩) [97, 98, 99] := hu4 ▸ rd_row (heap_alloc_new w4 _) rfl
 refine (Append_calls u4 d _ F4 [97] (some ⟨w4.heap.size, 0, none⟩) _ _ [97, 98, 99] (H4.out.1.new m4) (by decide) r4 rfl (by decide) (fun k hk e => by have h1 := Bk.some_.1 hk; have h2 := H4.out.1.lt d H4.out.1.mem; simp at h1; omega)).mono ?_
 rintro e w5 h
 obtain ⟨rfl, F5, q1, q2⟩ := h.eq fe4
 have H5 := Lib.hid (And.intro q1 (New.mv (Kp.trans H4.out.2.1 m4 fid fid) H4.out.2.2 q2))
 clear h q1 q2 m4 r4 hu4
 go_wp2_with fail
 refine (num_calls _ _).mono ?_
 rintro e x ⟨rfl, rfl⟩
 go_wp2_with fail
 obtain ⟨u5, hu5⟩ : ∃ u, w5.alloc (.cells #[.int .i64 2] 3) = u := ⟨_, rfl⟩
 rw [hu5]
 have m5 : New w5 u5 := hu5 ▸ Kp.alloc _ _ _
 have r5 : RdN u5 (some ⟨w5.heap.size, 0, none⟩) [2] := hu5 ▸ fun _ => ⟨w5.heap.size, 0, rfl, fun j v hv => by
  rw [cell_of_block (heap_alloc_new w5 _)]
  cases j with
  | zero => simp at hv; subst hv; rfl
  | succ j => simp at hv⟩
 refine (Crash_calls u5 d _ F5 (some ⟨w5.heap.size, 0, none⟩) _ _ [2] (H5.out.1.new m5) rfl r5 (by decide) (by decide) (fun k hk hm => by have h1 := Bk.some_.1 hk; have h2 := H5.out.1.lt k hm; simp at h1; omega)).mono ?_
 rintro e w6 ⟨rfl, F6, q1, q2⟩
 rw [fe5] at q1
 have H6 := Lib.hid (And.intro q1 (New.mv (Kp.trans H5.out.2.1 m5 fid fid) H5.out.2.2 q2))
 clear q1 q2 m5 r5 hu5
 go_wp2_with fail
 refine (Read_calls _ d _ F6 [97] 0 7 H6.out.1 (by decide) (by decide) (by decide)).mono ?_
 rintro e w7 ⟨A7, n7, c7, rfl, h7, o7, m7, -⟩
 rw [fe6] at h7 o7
 subst h7
 rw [fe6]
 have H7 := Lib.hid (And.intro o7 m7)
 clear o7 m7
 go_wp2_with fail
 refine (List_calls _ d _ F6 (H6.out.1.new H7.out.2) rfl).mono ?_
 rintro e w8 ⟨A8, n8, c8, rfl, h8, o8, m8, -⟩
 rw [fe7] at h8 o8
 subst h8
 have hv : (convert 55 9 (.slice A7 7 c7)).run Tryz.prog w8 = .ok (.string ⟨#[104, 101, 108, 108, 111, 97, 98]⟩) w8 := run_conv_RdB (P := Tryz.prog) w8 (src := 55) (dst := 9) Tryz.underlying55 Tryz.underlying5 Tryz.underlying9 c7 (Own.rd2 (H7.out.1.new m8))
 obtain ⟨g8, rfl⟩ := o8.some_ (by decide)
 have v8 : w8.cell? ⟨g8, 0, none⟩ = some (.string ⟨#[97]⟩) := o8.cell rfl
 have H8 := Lib.hid (And.intro o8 m8)
 clear o8 m8
 go_wp2_with fail
 refine (num_calls _ _).mono ?_
 rintro e x ⟨rfl, rfl⟩
 go_wp2_with fail
 refine (num_calls _ _).mono ?_
 rintro e x ⟨rfl, rfl⟩
 go_wp2_with fail
 refine (Free_calls _ d _ F6 ((H6.out.1.new H7.out.2).new H8.out.2)).mono ?_
 rintro e w9 ⟨rfl, m9⟩
 have H9 := Lib.hid m9
 clear m9
 go_wp2_with fail
 refine (Down_calls _ d _ F6 (((H6.out.1.new H7.out.2).new H8.out.2).new H9.out)).mono ?_
 rintro e x ⟨rfl, rfl⟩
 go_wp2_with fail
 go_ret
 exact ⟨rfl, ((Kp.trans H6.out.2.1 H7.out.2 fid fid).trans H8.out.2 fid fid).trans H9.out fid fid⟩
end Go.Proofs.YtekcoeonlfmebaaGreatDoor.Kit
