/- An act of the outright statements: one of the changing calls, Fuse or Crash. -/
import Derived.Test.YtekcoeonlfmebaaBegun
import Derived.Test.YtekcoeonlfmebaaCrash
import Derived.Test.YtekcoeonlfmebaaClone
import Derived.Test.YtekcoeonlfmebaaFromP
import Derived.Test.YtekcoeonlfmebaaAppend
import Derived.Test.YtekcoeonlfmebaaRename
import Derived.Test.YtekcoeonlfmebaaRemove
namespace Go.Proofs.Ytekcoeonlfmebaa.Kit
open Go Go.RowKit

theorem Try.info_int : (Try.prog.info? 3).map (fun i => (i.zero, i.size, i.bytes)) = some (some (.int .i64 0), 1, 8) := by kernel_rfl
def ics (l : List Int) : List Value := l.map (.int .i64 ·)
theorem Src.ofRdN {P : Program} {w : World} {tx e' : TypeId} (hk : P.underlying tx = some (.slice e')) {A : Option Addr} (c : Nat) {l : List Int} (h : RdN w A l) : Src P 1 tx (.slice A l.length c) l.length (ics l) w := by
  by_cases hl : l = []
  · subst hl
    cases A with
    | none => exact Src.ofNil w hk c
    | some a => exact Src.ofSlice w hk a 0 c [] rfl (fun j u hu => by simp at hu) (fun u hu => by simp at hu)
  · obtain ⟨b, off, rfl, hc⟩ := h hl
    refine Src.ofSlice w hk ⟨b, off, none⟩ l.length c (ics l) (by simp [ics]) (fun j u hu => ?_) (fun u hu => ?_)
    · unfold ics at hu
      rw [List.getElem?_map] at hu
      cases hj : l[j]? with
      | none => rw [hj] at hu; simp at hu
      | some v =>
        rw [hj] at hu
        obtain rfl := Option.some.inj hu
        have e := hc j v hj
        cases j with
        | zero => simpa [Addr.add] using e
        | succ j => simpa [Addr.add] using e
    · obtain ⟨v, _, rfl⟩ := List.mem_map.1 hu
      rfl
theorem Own.rdN {w : World} {e : TypeId} {c n : Nat} {A : Option Addr} {l : List Int} (h : Own w e 1 A c n (ics l)) : RdN w A l := by
  intro hne
  have hl := h.len
  have h0 : 0 < l.length := List.length_pos_iff.2 hne
  simp only [ics, List.length_map, Nat.mul_one] at hl
  obtain ⟨g, rfl⟩ := h.some_ (by omega)
  refine ⟨g, 0, rfl, fun j v hv => ?_⟩
  rw [Nat.zero_add]
  exact h.cell (by simp [ics, hv])

/-- An act that comes in. -/
structure OpV where
  disk : Int
  kind : Int
  name : List UInt8
  to : List UInt8
  bA : Option Addr
  bc : Nat
  body : List UInt8
  at_ : Int
  n : Int
  kA : Option Addr
  kc : Nat
  keep : List Int
  cap : Int
  fA : Option Addr
  fn : Nat
  fc : Nat
  fuse : Int
  down : Bool
def OpV.val (o : OpV) : Value := .agg #[.int .i64 o.disk, .int .i64 o.kind, .string (bstr o.name), .string (bstr o.to), .slice o.bA o.body.length o.bc, .int .i64 o.at_, .int .i64 o.n, .slice o.kA o.keep.length o.kc, .int .i64 o.cap, .slice o.fA o.fn o.fc, .int .i64 o.fuse, .bool o.down]
def OpV.act (o : OpV) (s : DS) : Nat × DS :=
  if o.kind = 3 then s.create (pressed o.name) else if o.kind = 4 then s.append (pressed o.name) o.body else if o.kind = 5 then s.sync (pressed o.name)
  else if o.kind = 6 then s.rename (pressed o.name) (pressed o.to) else if o.kind = 7 then s.remove (pressed o.name) else if o.kind = 12 then s.setFuse o.n
  else if o.kind = 14 then (0, s.crash o.keep) else (0, s)
structure OpV.Ok (w : World) (o : OpV) : Prop where
  name : o.name.length ≤ 9223372036854775807
  to : o.to.length ≤ 9223372036854775807
  body : RdB w o.bA o.body
  bodyLen : o.body.length ≤ 140737488351232
  keep : RdN w o.kA o.keep
  keepLen : o.keep.length ≤ 17592186043904
  keepIn : ∀ v ∈ o.keep, -9223372036854775808 ≤ v ∧ v ≤ 9223372036854775807
theorem OpV.Ok.kp {w w' : World} {S : Nat → Prop} {o : OpV} (h : o.Ok w) (hk : Kp S w w') (h1 : ∀ k, Bk o.bA k → ¬ S k) (h2 : ∀ k, Bk o.kA k → ¬ S k) : o.Ok w' := ⟨h.name, h.to, h.body.kp hk h1, h.bodyLen, h.keep.kp hk h2, h.keepLen, h.keepIn⟩
theorem OpV.Ok.new {w w' : World} {o : OpV} (h : o.Ok w) (hk : New w w') : o.Ok w' := h.kp hk (fun _ _ => id) (fun _ _ => id)

theorem ChangePost.up {d : Nat} {F : List Nat} {w w1 w' : World} {r : Nat × DS} {e : Ending} (hn : New w w1) (h : ChangePost d F w1 r e w') : ChangePost d F w r e w' := by
  obtain ⟨rfl, F', h1, h2⟩ := h
  exact ⟨rfl, F', h1, (Mv.of_new hn).trans h2⟩

set_option maxRecDepth 100000 in
set_option maxHeartbeats 4000000 in
theorem acts_calls (w : World) (d : Nat) (s : DS) (F : List Nat) (o : OpV) (hD : DiskAt w d s F) (ho : o.Ok w) :
    Calls Try.prog 9 #[.pointer (some ⟨d, 0, none⟩), o.val] w (ChangePost d F w (o.act s)) := by
  unfold OpV.val
  have HD := Lib.hid hD
  have HO := Lib.hid ho
  have hbl := ho.bodyLen
  have hkl := ho.keepLen
  have pa := pressed_len o.name
  have pb := pressed_len o.to
  clear hD ho
  by_cases h3 : o.kind = 3
  · have hact : o.act s = s.create (pressed o.name) := by unfold OpV.act; rw [if_pos h3]
    rw [hact, h3]
    clear hact
    go_enter Try.func9, Try.ntmps9
    go_wp2_with fail
    obtain ⟨W, hW⟩ : ∃ W, w.alloc (.cells #[.int .i64 o.disk, .int .i64 3, .string (bstr o.name), .string (bstr o.to), .slice o.bA o.body.length o.bc, .int .i64 o.at_, .int .i64 o.n, .slice o.kA o.keep.length o.kc, .int .i64 o.cap, .slice o.fA o.fn o.fc, .int .i64 o.fuse, .bool o.down] 34) = W := ⟨_, rfl⟩
    rw [hW]
    have nW : New w W := hW ▸ Kp.alloc _ _ _
    have bW : W.heap[w.heap.size]? = some (.cells #[.int .i64 o.disk, .int .i64 3, .string (bstr o.name), .string (bstr o.to), .slice o.bA o.body.length o.bc, .int .i64 o.at_, .int .i64 o.n, .slice o.kA o.keep.length o.kc, .int .i64 o.cap, .slice o.fA o.fn o.fc, .int .i64 o.fuse, .bool o.down] 34 (0, 0)) := hW ▸ heap_alloc_new w _
    clear hW
    refine (pressed_calls W o.name HO.out.name).mono ?_
    rintro e w1 ⟨rfl, n1⟩
    have b1 := heap_kp bW n1 id
    have f3 : w1.cell? ⟨w.heap.size, 3, none⟩ = some (.string (bstr o.to)) := (cell_of_block b1).trans rfl
    have HW := Lib.hid (And.intro nW (And.intro n1 b1))
    clear nW bW n1 b1
    go_wp2_with fail
    refine (pressed_calls w1 o.to HO.out.to).mono ?_
    rintro e w2 ⟨rfl, n2⟩
    have b2 := heap_kp HW.out.2.2 n2 id
    have g1 : w2.cell? ⟨w.heap.size, 1, none⟩ = some (.int .i64 3) := (cell_of_block b2).trans rfl
    have g4 : w2.cell? ⟨w.heap.size, 4, none⟩ = some (.slice o.bA o.body.length o.bc) := (cell_of_block b2).trans rfl
    have g6 : w2.cell? ⟨w.heap.size, 6, none⟩ = some (.int .i64 o.n) := (cell_of_block b2).trans rfl
    have g7 : w2.cell? ⟨w.heap.size, 7, none⟩ = some (.slice o.kA o.keep.length o.kc) := (cell_of_block b2).trans rfl
    have n02 : New w w2 := (HW.out.1.trans HW.out.2.1 (fun _ _ h => h) (fun _ _ h => h)).trans n2 (fun _ _ h => h) (fun _ _ h => h)
    have HN := Lib.hid n02
    clear n02 n2 b2 HW f3
    go_wp2_with fail
    refine (Create_calls w2 d s F (pressed o.name) (HD.out.new HN.out) (by omega)).mono ?_
    rintro e w3 ⟨rfl, F', h1, h2⟩
    have HR := Lib.hid (And.intro h1 h2)
    clear h1 h2
    go_wp2_with fail
    refine (num_calls _ _).mono ?_
    rintro e w4 ⟨rfl, rfl⟩
    go_wp2_with fail
    go_ret
    exact ⟨rfl, F', HR.out.1, (Mv.of_new HN.out).trans HR.out.2⟩
  · skip
    by_cases h4 : o.kind = 4
    · have hact : o.act s = s.append (pressed o.name) o.body := by unfold OpV.act; rw [if_neg h3, if_pos h4]
      rw [hact, h4]
      clear hact
      go_enter Try.func9, Try.ntmps9
      go_wp2_with fail
      obtain ⟨W, hW⟩ : ∃ W, w.alloc (.cells #[.int .i64 o.disk, .int .i64 4, .string (bstr o.name), .string (bstr o.to), .slice o.bA o.body.length o.bc, .int .i64 o.at_, .int .i64 o.n, .slice o.kA o.keep.length o.kc, .int .i64 o.cap, .slice o.fA o.fn o.fc, .int .i64 o.fuse, .bool o.down] 34) = W := ⟨_, rfl⟩
      rw [hW]
      have nW : New w W := hW ▸ Kp.alloc _ _ _
      have bW : W.heap[w.heap.size]? = some (.cells #[.int .i64 o.disk, .int .i64 4, .string (bstr o.name), .string (bstr o.to), .slice o.bA o.body.length o.bc, .int .i64 o.at_, .int .i64 o.n, .slice o.kA o.keep.length o.kc, .int .i64 o.cap, .slice o.fA o.fn o.fc, .int .i64 o.fuse, .bool o.down] 34 (0, 0)) := hW ▸ heap_alloc_new w _
      clear hW
      refine (pressed_calls W o.name HO.out.name).mono ?_
      rintro e w1 ⟨rfl, n1⟩
      have b1 := heap_kp bW n1 id
      have f3 : w1.cell? ⟨w.heap.size, 3, none⟩ = some (.string (bstr o.to)) := (cell_of_block b1).trans rfl
      have HW := Lib.hid (And.intro nW (And.intro n1 b1))
      clear nW bW n1 b1
      go_wp2_with fail
      refine (pressed_calls w1 o.to HO.out.to).mono ?_
      rintro e w2 ⟨rfl, n2⟩
      have b2 := heap_kp HW.out.2.2 n2 id
      have g1 : w2.cell? ⟨w.heap.size, 1, none⟩ = some (.int .i64 4) := (cell_of_block b2).trans rfl
      have g4 : w2.cell? ⟨w.heap.size, 4, none⟩ = some (.slice o.bA o.body.length o.bc) := (cell_of_block b2).trans rfl
      have g6 : w2.cell? ⟨w.heap.size, 6, none⟩ = some (.int .i64 o.n) := (cell_of_block b2).trans rfl
      have g7 : w2.cell? ⟨w.heap.size, 7, none⟩ = some (.slice o.kA o.keep.length o.kc) := (cell_of_block b2).trans rfl
      have n02 : New w w2 := (HW.out.1.trans HW.out.2.1 (fun _ _ h => h) (fun _ _ h => h)).trans n2 (fun _ _ h => h) (fun _ _ h => h)
      have HN := Lib.hid n02
      clear n02 n2 b2 HW f3
      have hrb := HO.out.body.new HN.out
      have g4' : (w2.alloc (.cells #[] 5)).cell? ⟨w.heap.size, 4, none⟩ = some (.slice o.bA o.body.length o.bc) := New.cell (Kp.alloc _ _ _) g4
      go_wp2_with (at_builtin; refine wpList_append_src _ rfl (.tmp 25) (.tmp 27) 28 28 rfl 5 (.int .u8 0) 1 1 Try.underlying28 Try.info_u8 rfl _ 0 0 [] rfl (Own.bare _ _ _) _ rfl o.body.length (bcs o.body) (Src.ofRdB _ Try.underlying28 o.bc (hrb.new (Kp.alloc _ _ _))) (by omega) (by omega) ?_; intro A2 c2 w3 q1 q2 q3; have H3 := Lib.hid (And.intro q1 (And.intro q2 q3)); clear q1 q2 q3)
      have n23 : New w2 w3 := (Kp.alloc (fun _ => False) w2 _).trans H3.out.2.1 (fun _ _ h => h) (fun i hi h => by have := Bk.some_.1 h; simp at this; omega)
      have hA2 : ∀ k, Bk A2 k → w2.heap.size ≤ k := fun j hj => (H3.out.2.2 j hj).elim (fun h => by have := Bk.some_.1 h; simp at this; omega) (fun h => by simp at h; omega)
      have hrd : RdB w3 A2 o.body := Own.rd2 H3.out.1
      refine (Append_calls w3 d s F (pressed o.name) A2 _ c2 o.body (HD.out.new (HN.out.trans n23 (fun _ _ h => h) (fun _ _ h => h))) (by omega) hrd (by first | rfl | simp) (by omega) (fun k hk e => by have h1 := hA2 k hk; have h2 := HD.out.lt d HD.out.mem; have h3 := HN.out.size; omega)).mono ?_
      rintro e w5 ⟨rfl, F', h1, h2⟩
      have HR := Lib.hid (And.intro h1 h2)
      clear h1 h2
      go_wp2_with fail
      refine (num_calls _ _).mono ?_
      rintro e w4 ⟨rfl, rfl⟩
      go_wp2_with fail
      go_ret
      exact ⟨rfl, F', HR.out.1, (Mv.of_new (HN.out.trans n23 (fun _ _ h => h) (fun _ _ h => h))).trans HR.out.2⟩
    · skip
      by_cases h5 : o.kind = 5
      · have hact : o.act s = s.sync (pressed o.name) := by unfold OpV.act; rw [if_neg h3, if_neg h4, if_pos h5]
        rw [hact, h5]
        clear hact
        go_enter Try.func9, Try.ntmps9
        go_wp2_with fail
        obtain ⟨W, hW⟩ : ∃ W, w.alloc (.cells #[.int .i64 o.disk, .int .i64 5, .string (bstr o.name), .string (bstr o.to), .slice o.bA o.body.length o.bc, .int .i64 o.at_, .int .i64 o.n, .slice o.kA o.keep.length o.kc, .int .i64 o.cap, .slice o.fA o.fn o.fc, .int .i64 o.fuse, .bool o.down] 34) = W := ⟨_, rfl⟩
        rw [hW]
        have nW : New w W := hW ▸ Kp.alloc _ _ _
        have bW : W.heap[w.heap.size]? = some (.cells #[.int .i64 o.disk, .int .i64 5, .string (bstr o.name), .string (bstr o.to), .slice o.bA o.body.length o.bc, .int .i64 o.at_, .int .i64 o.n, .slice o.kA o.keep.length o.kc, .int .i64 o.cap, .slice o.fA o.fn o.fc, .int .i64 o.fuse, .bool o.down] 34 (0, 0)) := hW ▸ heap_alloc_new w _
        clear hW
        refine (pressed_calls W o.name HO.out.name).mono ?_
        rintro e w1 ⟨rfl, n1⟩
        have b1 := heap_kp bW n1 id
        have f3 : w1.cell? ⟨w.heap.size, 3, none⟩ = some (.string (bstr o.to)) := (cell_of_block b1).trans rfl
        have HW := Lib.hid (And.intro nW (And.intro n1 b1))
        clear nW bW n1 b1
        go_wp2_with fail
        refine (pressed_calls w1 o.to HO.out.to).mono ?_
        rintro e w2 ⟨rfl, n2⟩
        have b2 := heap_kp HW.out.2.2 n2 id
        have g1 : w2.cell? ⟨w.heap.size, 1, none⟩ = some (.int .i64 5) := (cell_of_block b2).trans rfl
        have g4 : w2.cell? ⟨w.heap.size, 4, none⟩ = some (.slice o.bA o.body.length o.bc) := (cell_of_block b2).trans rfl
        have g6 : w2.cell? ⟨w.heap.size, 6, none⟩ = some (.int .i64 o.n) := (cell_of_block b2).trans rfl
        have g7 : w2.cell? ⟨w.heap.size, 7, none⟩ = some (.slice o.kA o.keep.length o.kc) := (cell_of_block b2).trans rfl
        have n02 : New w w2 := (HW.out.1.trans HW.out.2.1 (fun _ _ h => h) (fun _ _ h => h)).trans n2 (fun _ _ h => h) (fun _ _ h => h)
        have HN := Lib.hid n02
        clear n02 n2 b2 HW f3
        go_wp2_with fail
        refine (Sync_calls w2 d s F (pressed o.name) (HD.out.new HN.out) (by omega)).mono ?_
        rintro e w3 ⟨rfl, F', h1, h2⟩
        have HR := Lib.hid (And.intro h1 h2)
        clear h1 h2
        go_wp2_with fail
        refine (num_calls _ _).mono ?_
        rintro e w4 ⟨rfl, rfl⟩
        go_wp2_with fail
        go_ret
        exact ⟨rfl, F', HR.out.1, (Mv.of_new HN.out).trans HR.out.2⟩
      · skip
        by_cases h6 : o.kind = 6
        · have hact : o.act s = s.rename (pressed o.name) (pressed o.to) := by unfold OpV.act; rw [if_neg h3, if_neg h4, if_neg h5, if_pos h6]
          rw [hact, h6]
          clear hact
          go_enter Try.func9, Try.ntmps9
          go_wp2_with fail
          obtain ⟨W, hW⟩ : ∃ W, w.alloc (.cells #[.int .i64 o.disk, .int .i64 6, .string (bstr o.name), .string (bstr o.to), .slice o.bA o.body.length o.bc, .int .i64 o.at_, .int .i64 o.n, .slice o.kA o.keep.length o.kc, .int .i64 o.cap, .slice o.fA o.fn o.fc, .int .i64 o.fuse, .bool o.down] 34) = W := ⟨_, rfl⟩
          rw [hW]
          have nW : New w W := hW ▸ Kp.alloc _ _ _
          have bW : W.heap[w.heap.size]? = some (.cells #[.int .i64 o.disk, .int .i64 6, .string (bstr o.name), .string (bstr o.to), .slice o.bA o.body.length o.bc, .int .i64 o.at_, .int .i64 o.n, .slice o.kA o.keep.length o.kc, .int .i64 o.cap, .slice o.fA o.fn o.fc, .int .i64 o.fuse, .bool o.down] 34 (0, 0)) := hW ▸ heap_alloc_new w _
          clear hW
          refine (pressed_calls W o.name HO.out.name).mono ?_
          rintro e w1 ⟨rfl, n1⟩
          have b1 := heap_kp bW n1 id
          have f3 : w1.cell? ⟨w.heap.size, 3, none⟩ = some (.string (bstr o.to)) := (cell_of_block b1).trans rfl
          have HW := Lib.hid (And.intro nW (And.intro n1 b1))
          clear nW bW n1 b1
          go_wp2_with fail
          refine (pressed_calls w1 o.to HO.out.to).mono ?_
          rintro e w2 ⟨rfl, n2⟩
          have b2 := heap_kp HW.out.2.2 n2 id
          have g1 : w2.cell? ⟨w.heap.size, 1, none⟩ = some (.int .i64 6) := (cell_of_block b2).trans rfl
          have g4 : w2.cell? ⟨w.heap.size, 4, none⟩ = some (.slice o.bA o.body.length o.bc) := (cell_of_block b2).trans rfl
          have g6 : w2.cell? ⟨w.heap.size, 6, none⟩ = some (.int .i64 o.n) := (cell_of_block b2).trans rfl
          have g7 : w2.cell? ⟨w.heap.size, 7, none⟩ = some (.slice o.kA o.keep.length o.kc) := (cell_of_block b2).trans rfl
          have n02 : New w w2 := (HW.out.1.trans HW.out.2.1 (fun _ _ h => h) (fun _ _ h => h)).trans n2 (fun _ _ h => h) (fun _ _ h => h)
          have HN := Lib.hid n02
          clear n02 n2 b2 HW f3
          go_wp2_with fail
          refine (Rename_calls w2 d s F (pressed o.name) (pressed o.to) (HD.out.new HN.out) (by omega) (by omega)).mono ?_
          rintro e w3 ⟨rfl, F', h1, h2⟩
          have HR := Lib.hid (And.intro h1 h2)
          clear h1 h2
          go_wp2_with fail
          refine (num_calls _ _).mono ?_
          rintro e w4 ⟨rfl, rfl⟩
          go_wp2_with fail
          go_ret
          exact ⟨rfl, F', HR.out.1, (Mv.of_new HN.out).trans HR.out.2⟩
        · skip
          by_cases h7 : o.kind = 7
          · have hact : o.act s = s.remove (pressed o.name) := by unfold OpV.act; rw [if_neg h3, if_neg h4, if_neg h5, if_neg h6, if_pos h7]
            rw [hact, h7]
            clear hact
            go_enter Try.func9, Try.ntmps9
            go_wp2_with fail
            obtain ⟨W, hW⟩ : ∃ W, w.alloc (.cells #[.int .i64 o.disk, .int .i64 7, .string (bstr o.name), .string (bstr o.to), .slice o.bA o.body.length o.bc, .int .i64 o.at_, .int .i64 o.n, .slice o.kA o.keep.length o.kc, .int .i64 o.cap, .slice o.fA o.fn o.fc, .int .i64 o.fuse, .bool o.down] 34) = W := ⟨_, rfl⟩
            rw [hW]
            have nW : New w W := hW ▸ Kp.alloc _ _ _
            have bW : W.heap[w.heap.size]? = some (.cells #[.int .i64 o.disk, .int .i64 7, .string (bstr o.name), .string (bstr o.to), .slice o.bA o.body.length o.bc, .int .i64 o.at_, .int .i64 o.n, .slice o.kA o.keep.length o.kc, .int .i64 o.cap, .slice o.fA o.fn o.fc, .int .i64 o.fuse, .bool o.down] 34 (0, 0)) := hW ▸ heap_alloc_new w _
            clear hW
            refine (pressed_calls W o.name HO.out.name).mono ?_
            rintro e w1 ⟨rfl, n1⟩
            have b1 := heap_kp bW n1 id
            have f3 : w1.cell? ⟨w.heap.size, 3, none⟩ = some (.string (bstr o.to)) := (cell_of_block b1).trans rfl
            have HW := Lib.hid (And.intro nW (And.intro n1 b1))
            clear nW bW n1 b1
            go_wp2_with fail
            refine (pressed_calls w1 o.to HO.out.to).mono ?_
            rintro e w2 ⟨rfl, n2⟩
            have b2 := heap_kp HW.out.2.2 n2 id
            have g1 : w2.cell? ⟨w.heap.size, 1, none⟩ = some (.int .i64 7) := (cell_of_block b2).trans rfl
            have g4 : w2.cell? ⟨w.heap.size, 4, none⟩ = some (.slice o.bA o.body.length o.bc) := (cell_of_block b2).trans rfl
            have g6 : w2.cell? ⟨w.heap.size, 6, none⟩ = some (.int .i64 o.n) := (cell_of_block b2).trans rfl
            have g7 : w2.cell? ⟨w.heap.size, 7, none⟩ = some (.slice o.kA o.keep.length o.kc) := (cell_of_block b2).trans rfl
            have n02 : New w w2 := (HW.out.1.trans HW.out.2.1 (fun _ _ h => h) (fun _ _ h => h)).trans n2 (fun _ _ h => h) (fun _ _ h => h)
            have HN := Lib.hid n02
            clear n02 n2 b2 HW f3
            go_wp2_with fail
            refine (Remove_calls w2 d s F (pressed o.name) (HD.out.new HN.out) (by omega)).mono ?_
            rintro e w3 ⟨rfl, F', h1, h2⟩
            have HR := Lib.hid (And.intro h1 h2)
            clear h1 h2
            go_wp2_with fail
            refine (num_calls _ _).mono ?_
            rintro e w4 ⟨rfl, rfl⟩
            go_wp2_with fail
            go_ret
            exact ⟨rfl, F', HR.out.1, (Mv.of_new HN.out).trans HR.out.2⟩
          · skip
            by_cases h12 : o.kind = 12
            · have hact : o.act s = s.setFuse o.n := by unfold OpV.act; rw [if_neg h3, if_neg h4, if_neg h5, if_neg h6, if_neg h7, if_pos h12]
              rw [hact, h12]
              clear hact
              go_enter Try.func9, Try.ntmps9
              go_wp2_with fail
              obtain ⟨W, hW⟩ : ∃ W, w.alloc (.cells #[.int .i64 o.disk, .int .i64 12, .string (bstr o.name), .string (bstr o.to), .slice o.bA o.body.length o.bc, .int .i64 o.at_, .int .i64 o.n, .slice o.kA o.keep.length o.kc, .int .i64 o.cap, .slice o.fA o.fn o.fc, .int .i64 o.fuse, .bool o.down] 34) = W := ⟨_, rfl⟩
              rw [hW]
              have nW : New w W := hW ▸ Kp.alloc _ _ _
              have bW : W.heap[w.heap.size]? = some (.cells #[.int .i64 o.disk, .int .i64 12, .string (bstr o.name), .string (bstr o.to), .slice o.bA o.body.length o.bc, .int .i64 o.at_, .int .i64 o.n, .slice o.kA o.keep.length o.kc, .int .i64 o.cap, .slice o.fA o.fn o.fc, .int .i64 o.fuse, .bool o.down] 34 (0, 0)) := hW ▸ heap_alloc_new w _
              clear hW
              refine (pressed_calls W o.name HO.out.name).mono ?_
              rintro e w1 ⟨rfl, n1⟩
              have b1 := heap_kp bW n1 id
              have f3 : w1.cell? ⟨w.heap.size, 3, none⟩ = some (.string (bstr o.to)) := (cell_of_block b1).trans rfl
              have HW := Lib.hid (And.intro nW (And.intro n1 b1))
              clear nW bW n1 b1
              go_wp2_with fail
              refine (pressed_calls w1 o.to HO.out.to).mono ?_
              rintro e w2 ⟨rfl, n2⟩
              have b2 := heap_kp HW.out.2.2 n2 id
              have g1 : w2.cell? ⟨w.heap.size, 1, none⟩ = some (.int .i64 12) := (cell_of_block b2).trans rfl
              have g4 : w2.cell? ⟨w.heap.size, 4, none⟩ = some (.slice o.bA o.body.length o.bc) := (cell_of_block b2).trans rfl
              have g6 : w2.cell? ⟨w.heap.size, 6, none⟩ = some (.int .i64 o.n) := (cell_of_block b2).trans rfl
              have g7 : w2.cell? ⟨w.heap.size, 7, none⟩ = some (.slice o.kA o.keep.length o.kc) := (cell_of_block b2).trans rfl
              have n02 : New w w2 := (HW.out.1.trans HW.out.2.1 (fun _ _ h => h) (fun _ _ h => h)).trans n2 (fun _ _ h => h) (fun _ _ h => h)
              have HN := Lib.hid n02
              clear n02 n2 b2 HW f3
              go_wp2_with fail
              refine (Fuse_calls w2 d s F o.n (HD.out.new HN.out)).mono ?_
              rintro e w3 ⟨rfl, F', h1, h2⟩
              have HR := Lib.hid (And.intro h1 h2)
              clear h1 h2
              go_wp2_with fail
              refine (num_calls _ _).mono ?_
              rintro e w4 ⟨rfl, rfl⟩
              go_wp2_with fail
              go_ret
              exact ⟨rfl, F', HR.out.1, (Mv.of_new HN.out).trans HR.out.2⟩
            · skip
              by_cases h14 : o.kind = 14
              · have hact : o.act s = (0, s.crash o.keep) := by unfold OpV.act; rw [if_neg h3, if_neg h4, if_neg h5, if_neg h6, if_neg h7, if_neg h12, if_pos h14]
                rw [hact, h14]
                clear hact
                go_enter Try.func9, Try.ntmps9
                go_wp2_with fail
                obtain ⟨W, hW⟩ : ∃ W, w.alloc (.cells #[.int .i64 o.disk, .int .i64 14, .string (bstr o.name), .string (bstr o.to), .slice o.bA o.body.length o.bc, .int .i64 o.at_, .int .i64 o.n, .slice o.kA o.keep.length o.kc, .int .i64 o.cap, .slice o.fA o.fn o.fc, .int .i64 o.fuse, .bool o.down] 34) = W := ⟨_, rfl⟩
                rw [hW]
                have nW : New w W := hW ▸ Kp.alloc _ _ _
                have bW : W.heap[w.heap.size]? = some (.cells #[.int .i64 o.disk, .int .i64 14, .string (bstr o.name), .string (bstr o.to), .slice o.bA o.body.length o.bc, .int .i64 o.at_, .int .i64 o.n, .slice o.kA o.keep.length o.kc, .int .i64 o.cap, .slice o.fA o.fn o.fc, .int .i64 o.fuse, .bool o.down] 34 (0, 0)) := hW ▸ heap_alloc_new w _
                clear hW
                refine (pressed_calls W o.name HO.out.name).mono ?_
                rintro e w1 ⟨rfl, n1⟩
                have b1 := heap_kp bW n1 id
                have f3 : w1.cell? ⟨w.heap.size, 3, none⟩ = some (.string (bstr o.to)) := (cell_of_block b1).trans rfl
                have HW := Lib.hid (And.intro nW (And.intro n1 b1))
                clear nW bW n1 b1
                go_wp2_with fail
                refine (pressed_calls w1 o.to HO.out.to).mono ?_
                rintro e w2 ⟨rfl, n2⟩
                have b2 := heap_kp HW.out.2.2 n2 id
                have g1 : w2.cell? ⟨w.heap.size, 1, none⟩ = some (.int .i64 14) := (cell_of_block b2).trans rfl
                have g4 : w2.cell? ⟨w.heap.size, 4, none⟩ = some (.slice o.bA o.body.length o.bc) := (cell_of_block b2).trans rfl
                have g6 : w2.cell? ⟨w.heap.size, 6, none⟩ = some (.int .i64 o.n) := (cell_of_block b2).trans rfl
                have g7 : w2.cell? ⟨w.heap.size, 7, none⟩ = some (.slice o.kA o.keep.length o.kc) := (cell_of_block b2).trans rfl
                have n02 : New w w2 := (HW.out.1.trans HW.out.2.1 (fun _ _ h => h) (fun _ _ h => h)).trans n2 (fun _ _ h => h) (fun _ _ h => h)
                have HN := Lib.hid n02
                clear n02 n2 b2 HW f3
                have hrb := HO.out.keep.new HN.out
                have g7' : (w2.alloc (.cells #[] 3)).cell? ⟨w.heap.size, 7, none⟩ = some (.slice o.kA o.keep.length o.kc) := New.cell (Kp.alloc _ _ _) g7
                go_wp2_with (at_builtin; refine wpList_append_src _ rfl (.tmp 60) (.tmp 62) 29 29 rfl 3 (.int .i64 0) 1 8 Try.underlying29 Try.info_int rfl _ 0 0 [] rfl (Own.bare _ _ _) _ rfl o.keep.length (ics o.keep) (Src.ofRdN Try.underlying29 o.kc (hrb.new (Kp.alloc _ _ _))) (by omega) (by omega) ?_; intro A2 c2 w3 q1 q2 q3; have H3 := Lib.hid (And.intro q1 (And.intro q2 q3)); clear q1 q2 q3)
                have n23 : New w2 w3 := (Kp.alloc (fun _ => False) w2 _).trans H3.out.2.1 (fun _ _ h => h) (fun i hi h => by have := Bk.some_.1 h; simp at this; omega)
                have hA2 : ∀ k, Bk A2 k → w2.heap.size ≤ k := fun j hj => (H3.out.2.2 j hj).elim (fun h => by have := Bk.some_.1 h; simp at this; omega) (fun h => by simp at h; omega)
                have hrd : RdN w3 A2 o.keep := Own.rdN H3.out.1
                refine (Crash_calls w3 d s F A2 _ c2 o.keep (HD.out.new (HN.out.trans n23 (fun _ _ h => h) (fun _ _ h => h))) (by first | rfl | simp) hrd (by omega) HO.out.keepIn (fun k hk hm => by have h1 := hA2 k hk; have h2 := HD.out.lt k hm; have h3 := HN.out.size; omega)).mono ?_
                rintro e w5 ⟨rfl, F', h1, h2⟩
                have HR := Lib.hid (And.intro h1 h2)
                clear h1 h2
                go_wp2_with fail
                go_ret
                exact ⟨rfl, F', HR.out.1, (Mv.of_new (HN.out.trans n23 (fun _ _ h => h) (fun _ _ h => h))).trans HR.out.2⟩
              · skip
                have hact : o.act s = (0, s) := by unfold OpV.act; rw [if_neg h3, if_neg h4, if_neg h5, if_neg h6, if_neg h7, if_neg h12, if_neg h14]
                rw [hact]
                clear hact
                go_enter Try.func9, Try.ntmps9
                go_wp2_with fail
                obtain ⟨W, hW⟩ : ∃ W, w.alloc (.cells #[.int .i64 o.disk, .int .i64 o.kind, .string (bstr o.name), .string (bstr o.to), .slice o.bA o.body.length o.bc, .int .i64 o.at_, .int .i64 o.n, .slice o.kA o.keep.length o.kc, .int .i64 o.cap, .slice o.fA o.fn o.fc, .int .i64 o.fuse, .bool o.down] 34) = W := ⟨_, rfl⟩
                rw [hW]
                have nW : New w W := hW ▸ Kp.alloc _ _ _
                have bW : W.heap[w.heap.size]? = some (.cells #[.int .i64 o.disk, .int .i64 o.kind, .string (bstr o.name), .string (bstr o.to), .slice o.bA o.body.length o.bc, .int .i64 o.at_, .int .i64 o.n, .slice o.kA o.keep.length o.kc, .int .i64 o.cap, .slice o.fA o.fn o.fc, .int .i64 o.fuse, .bool o.down] 34 (0, 0)) := hW ▸ heap_alloc_new w _
                clear hW
                refine (pressed_calls W o.name HO.out.name).mono ?_
                rintro e w1 ⟨rfl, n1⟩
                have b1 := heap_kp bW n1 id
                have f3 : w1.cell? ⟨w.heap.size, 3, none⟩ = some (.string (bstr o.to)) := (cell_of_block b1).trans rfl
                have HW := Lib.hid (And.intro nW (And.intro n1 b1))
                clear nW bW n1 b1
                go_wp2_with fail
                refine (pressed_calls w1 o.to HO.out.to).mono ?_
                rintro e w2 ⟨rfl, n2⟩
                have b2 := heap_kp HW.out.2.2 n2 id
                have g1 : w2.cell? ⟨w.heap.size, 1, none⟩ = some (.int .i64 o.kind) := (cell_of_block b2).trans rfl
                have g4 : w2.cell? ⟨w.heap.size, 4, none⟩ = some (.slice o.bA o.body.length o.bc) := (cell_of_block b2).trans rfl
                have g6 : w2.cell? ⟨w.heap.size, 6, none⟩ = some (.int .i64 o.n) := (cell_of_block b2).trans rfl
                have g7 : w2.cell? ⟨w.heap.size, 7, none⟩ = some (.slice o.kA o.keep.length o.kc) := (cell_of_block b2).trans rfl
                have n02 : New w w2 := (HW.out.1.trans HW.out.2.1 (fun _ _ h => h) (fun _ _ h => h)).trans n2 (fun _ _ h => h) (fun _ _ h => h)
                have HN := Lib.hid n02
                clear n02 n2 b2 HW f3
                go_wp2_with fail
                go_ret
                exact ⟨rfl, F, HD.out.new HN.out, Mv.of_new HN.out⟩
end Go.Proofs.Ytekcoeonlfmebaa.Kit
