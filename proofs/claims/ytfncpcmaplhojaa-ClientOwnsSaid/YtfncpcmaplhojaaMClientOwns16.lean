/- Clients: what stays true of them (pure). Contract of scrivkeep's helper hand. The laws' helper first: a revision that puts a text; histories just boxed. -/
import Derived.Test.YtfncpcmaplhojaaMClientOwns15
import Derived.Test.YtfncpcmaplhojaaMClientOwns5
import Derived.Test.YtfncpcmaplhojaaMClientOwns11
namespace Go.Proofs.Ytfncpcmaplhojaa
set_option linter.unusedVariables false
set_option linter.unusedSimpArgs false

theorem chk_grp (us : List U) (h : Cn us) : chk (grp us) = 0 ∨ chk (grp us) = 2 := by
  have h1 := chkL_fine (grp us) 0 (by
    cases us with
    | nil => right; rfl
    | cons u r => left; rw [hk_grp]; unfold kU one; split <;> simp) (by simp) (adj_grp us h) (fine_grp us)
  unfold chk
  split
  · exact .inr rfl
  · rcases h1 with h1 | h1
    · rw [if_neg (by rw [h1]; simp)]
      split
      · exact .inr rfl
      · exact .inl rfl
    · rw [if_pos (by rw [h1]; decide)]
      exact .inr h1
theorem meet_02 {a b : List Pt} (ha : chk a = 0) (hb : chk b = 0) (hn : nI (units a) = nI (units b)) : meetE a b = 0 ∨ meetE a b = 2 := by
  have h1 : chk (meet1 a b) = 0 ∨ chk (meet1 a b) = 2 := chk_grp _ (cn_cz _)
  have h2 : chk (meet2 a b) = 0 ∨ chk (meet2 a b) = 2 := chk_grp _ (cn_cz _)
  unfold meetE
  rw [if_neg (by simpa using ha), if_neg (by simpa using hb), if_neg (by simpa using hn)]
  rcases h1 with h1 | h1
  · rw [if_neg (by rw [h1]; simp)]; exact h2
  · rw [if_pos (by rw [h1]; decide)]; exact .inr h1
/-- the client's text is S, and then what it sent, and then what it holds -/
structure Chain (c : Cl) (S : ByteArray) : Prop where
  idle : c.fly = false → c.text = S
  sent : c.fly = true → doE c.sent S = 0
  flies : c.fly = true → c.wait = false → c.text = doS c.sent S
  held : c.wait = true → doE c.held (doS c.sent S) = 0
  waits : c.wait = true → c.text = doS c.held (doS c.sent S)
theorem ckok_edit {c : Cl} {d : List Pt} (h : CkOk c) (he : doE d c.text = 0) (hq : c.fly = false → c.seq < 2147483647) : CkOk (edL c d) := by
  obtain ⟨k1, k2, k3, k4⟩ := do_chk he
  have k5 := do_size he
  have k6 := do_le he
  obtain ⟨a, r, sq, t, f, S, q, H⟩ := c
  obtain ⟨h1, h2, h3, h4, h5, h6, h7, h8, h9, h10, h11, h12⟩ := h
  simp only at *
  unfold edL
  cases f with
  | false =>
    have hq0 : q = false := by cases q with
      | false => rfl
      | true => exact absurd (h10 rfl) (by simp)
    subst hq0
    exact ⟨h1, h2, h3, h4, by simp only [↓reduceIte]; omega, by have := hq rfl; simp only [↓reduceIte]; omega, k6, fun x => by simp at x, h9, fun x => by simp at x, fun x => by simp at x, fun _ => ⟨k1, by simpa using k5.symm⟩⟩
  | true =>
    cases q with
    | false =>
      have h13 := h12 rfl
      simp only [Bool.false_eq_true, ↓reduceIte] at h13
      exact ⟨h1, h2, h3, h4, h5, h6, k6, h8, fun x => by simp at x, fun _ => rfl, fun _ => ⟨k1, k5.symm⟩, fun _ => ⟨h13.1, by simp only [↓reduceIte, Bool.true_eq_false]; omega⟩⟩
    | true =>
      have h13 := h12 rfl
      have h14 := h11 rfl
      simp only [↓reduceIte] at h13
      have hc := comp_zero h14.1 k1 (by omega)
      have hs := comp_sizes hc
      exact ⟨h1, h2, h3, h4, h5, h6, k6, h8, fun x => by simp at x, fun _ => rfl, fun _ => ⟨(comp_chk hc).2.2.2.2, by simp only [↓reduceIte, Bool.true_eq_false]; omega⟩, fun _ => ⟨h13.1, by simp only [↓reduceIte, Bool.true_eq_false]; omega⟩⟩
theorem chain_edit {c : Cl} {d : List Pt} {S : ByteArray} (hk : CkOk c) (h : Chain c S) (he : doE d c.text = 0) : Chain (edL c d) S := by
  obtain ⟨a, r, sq, t, f, s, q, H⟩ := c
  obtain ⟨i1, i2, i3, i4, i5⟩ := h
  simp only at *
  unfold edL
  cases f with
  | false =>
    obtain rfl := i1 rfl
    have hq0 : q = false := by cases q with
      | false => rfl
      | true => exact absurd (hk.wf rfl) (by simp)
    subst hq0
    exact ⟨fun x => by simp at x, fun _ => he, fun _ _ => rfl, fun x => by simp at x, fun x => by simp at x⟩
  | true =>
    cases q with
    | false =>
      have e := i3 rfl rfl
      subst e
      exact ⟨fun x => by simp at x, fun _ => i2 rfl, fun _ x => by simp at x, fun _ => he, fun _ => rfl⟩
    | true =>
      have e := i5 rfl
      have hH := i4 rfl
      subst e
      obtain ⟨-, j1, j2⟩ := comp_do hH he
      exact ⟨fun x => by simp at x, fun _ => i2 rfl, fun _ x => by simp at x, fun _ => j1, fun _ => j2.symm⟩
theorem ckok_own {c : Cl} (h : CkOk c) (hf : c.fly = true) (hr : c.rev < 2147483647) (hm : c.wait = true → c.seq < 2147483647) : CkOk (inO c) := by
  obtain ⟨a, r, sq, t, f, S, q, H⟩ := c
  obtain ⟨h1, h2, h3, h4, h5, h6, h7, h8, h9, h10, h11, h12⟩ := h
  simp only at *
  subst hf
  cases q with
  | false => exact ⟨h1, h2, by simp [inO]; omega, by simp [inO]; omega, by simpa [inO] using h5, by simpa [inO] using h6, h7, fun _ => h9 rfl, fun _ => rfl, fun x => by simp [inO] at x, fun x => by simp [inO] at x, fun x => by simp [inO] at x⟩
  | true =>
    have := hm rfl
    have h11 := h11 rfl
    exact ⟨h1, h2, by simp [inO]; omega, by simp [inO]; omega, by simp [inO]; omega, by simp [inO]; omega, h7, fun x => by simp [inO] at x, fun _ => rfl, fun x => by simp [inO] at x, fun x => by simp [inO] at x, fun _ => ⟨h11.1, by simpa [inO] using h11.2⟩⟩
theorem chain_own {c : Cl} {S : ByteArray} (hk : CkOk c) (h : Chain c S) (hf : c.fly = true) : Chain (inO c) (doS c.sent S) := by
  obtain ⟨a, r, sq, t, f, s, q, H⟩ := c
  obtain ⟨i1, i2, i3, i4, i5⟩ := h
  simp only at *
  subst hf
  cases q with
  | false => exact ⟨fun _ => i3 rfl rfl, fun x => by simp [inO] at x, fun x => by simp [inO] at x, fun x => by simp [inO] at x, fun x => by simp [inO] at x⟩
  | true => exact ⟨fun x => by simp [inO] at x, fun _ => i4 rfl, fun _ _ => i5 rfl, fun x => by simp [inO] at x, fun x => by simp [inO] at x⟩
/-- another's message comes in: it fits, or it is too large -/
theorem in_cases {c : Cl} {S : ByteArray} {d : List Pt} (hk : CkOk c) (h : Chain c S) (hd : doE d S = 0) (hr : c.rev < 2147483647) :
    inE c d = 2 ∨ (inE c d = 0 ∧ CkOk (inL c d) ∧ Chain (inL c d) (doS d S)) := by
  obtain ⟨k1, k2, k3, k4⟩ := do_chk hd
  obtain ⟨a, r, sq, t, f, s, q, H⟩ := c
  obtain ⟨i1, i2, i3, i4, i5⟩ := h
  obtain ⟨h1, h2, h3, h4, h5, h6, h7, h8, h9, h10, h11, h12⟩ := hk
  simp only at *
  cases f with
  | false =>
    obtain rfl := i1 rfl
    have hq0 : q = false := by cases q with
      | false => rfl
      | true => exact absurd (h10 rfl) (by simp)
    subst hq0
    right
    refine ⟨by simp [inE, in1E, in2E, in2D, in1D, k1, hd], ?_, ?_⟩
    · exact ⟨h1, h2, by simp only [inL]; omega, by simp only [inL]; omega, h5, h6, by simpa [inL, in2D, in1D] using do_le hd, h8, h9, h10, fun x => by simp [inL] at x, fun x => by simp [inL] at x⟩
    · exact ⟨fun _ => by simp [inL, in2D, in1D], fun x => by simp [inL] at x, fun x => by simp [inL] at x, fun x => by simp [inL] at x, fun x => by simp [inL] at x⟩
  | true =>
    have j2 := i2 rfl
    obtain ⟨s1, s2, s3, s4⟩ := do_chk j2
    rcases meet_02 k1 s1 (by omega) with e1 | e1
    · obtain ⟨m1, m2, m3⟩ := meet_do e1 hd j2
      have g1 := meet_good e1
      have z1 := meet_sizes e1
      cases q with
      | false =>
        have e := i3 rfl rfl
        subst e
        right
        refine ⟨by simp [inE, in1E, in2E, in2D, in1D, k1, e1, m2], ?_, ?_⟩
        · exact ⟨h1, h2, by simp only [inL]; omega, by simp only [inL]; omega, h5, h6, by simpa [inL, in2D, in1D] using do_le m2, fun x => by simp [inL] at x, h9, h10, fun x => by simp [inL] at x, fun _ => ⟨by simpa [inL, in1S] using g1.2, by have := do_size m2; simp [inL, in1S, in2D, in1D]; omega⟩⟩
        · exact ⟨fun x => by simp [inL] at x, fun _ => by simpa [inL, in1S] using m1, fun _ _ => by simpa [inL, in1S, in2D, in1D] using m3.symm, fun x => by simp [inL] at x, fun x => by simp [inL] at x⟩
      | true =>
        have e := i5 rfl
        have j4 := i4 rfl
        subst e
        obtain ⟨t1, t2, t3, t4⟩ := do_chk j4
        obtain ⟨u1, u2, u3, u4⟩ := do_chk m2
        rcases meet_02 u1 t1 (by omega) with e2 | e2
        · obtain ⟨n1, n2, n3⟩ := meet_do e2 m2 j4
          have g2 := meet_good e2
          have z2 := meet_sizes e2
          right
          refine ⟨by simp [inE, in1E, in2E, in2D, in1D, k1, e1, e2, n2], ?_, ?_⟩
          · exact ⟨h1, h2, by simp only [inL]; omega, by simp only [inL]; omega, h5, h6, by simpa [inL, in2D, in1D] using do_le n2, fun x => by simp [inL] at x, fun x => by simp [inL] at x, h10,
              fun _ => ⟨by simpa [inL, in2H, in1D] using g2.2, by have := do_size n2; simp [inL, in2H, in2D, in1D]; omega⟩, fun _ => ⟨by simpa [inL, in1S] using g1.2, by simp [inL, in1S, in2H, in1D]; omega⟩⟩
          · refine ⟨fun x => by simp [inL] at x, fun _ => by simpa [inL, in1S] using m1, fun _ x => by simp [inL] at x, fun _ => ?_, fun _ => ?_⟩
            · simp only [inL, in1S, in2H, in1D, ↓reduceIte]; rw [m3]; exact n1
            · simp only [inL, in1S, in2H, in2D, in1D, ↓reduceIte]; rw [m3]; exact n3.symm
        · left
          simp [inE, in1E, in2E, in1D, k1, e1, e2]
    · left
      simp [inE, in1E, k1, e1]
/-- how long the slices of a right client are -/
theorem ckok_len {c : Cl} (h : CkOk c) : c.sent.length ≤ 1600 ∧ c.held.length ≤ 1600 := by
  constructor
  · cases hf : c.fly with
    | false => rw [h.sent0 hf]; simp
    | true => exact (chk_parts (h.sk hf).1).1
  · cases hf : c.wait with
    | false => rw [h.held0 hf]; simp
    | true => exact (chk_parts (h.hk hf).1).1
theorem ckok_txt {c : Cl} (h : CkOk c) : (∀ p ∈ c.sent, p.2.2.size ≤ 140737488351232) ∧ (∀ p ∈ c.held, p.2.2.size ≤ 140737488351232) := by
  constructor
  · cases hf : c.fly with
    | false => rw [h.sent0 hf]; simp
    | true => exact text_good (h.sk hf).1
  · cases hf : c.wait with
    | false => rw [h.held0 hf]; simp
    | true => exact text_good (h.hk hf).1
end Go.Proofs.Ytfncpcmaplhojaa
namespace Go.Proofs.Ytfncpcmaplhojaa
open Go.ChangeShapes Go.WideShapes Go.RowKit
set_option linter.unusedVariables false
set_option linter.unusedSimpArgs false
set_option maxRecDepth 100000
set_option maxHeartbeats 4000000

def c0 (s : ByteArray) : Cl := ⟨1, 5, 3, s, false, [], false, []⟩
/-- the hand behind two edits -/
def hC (s : ByteArray) (d f : List Pt) : Cl := if doE f (edL (c0 s) d).text = 0 then edL (edL (c0 s) d) f else edL (c0 s) d
theorem ckok_c0 {s : ByteArray} (h : s.size ≤ 500) : CkOk (c0 s) := ⟨by simp [c0], by simp [c0], by simp [c0], by simp [c0], by simp [c0], by simp [c0], h, fun _ => rfl, fun _ => rfl, fun x => by simp [c0] at x, fun x => by simp [c0] at x, fun x => by simp [c0] at x⟩
theorem chain_c0 (s : ByteArray) : Chain (c0 s) s := ⟨fun _ => rfl, fun x => by simp [c0] at x, fun x => by simp [c0] at x, fun x => by simp [c0] at x, fun x => by simp [c0] at x⟩
theorem hC_ok {s : ByteArray} {d f : List Pt} (h : doE d s = 0) : CkOk (hC s d f) ∧ Chain (hC s d f) s ∧ (hC s d f).who = 1 ∧ (hC s d f).rev = 5 ∧ (hC s d f).seq = 4 ∧ (hC s d f).fly = true := by
  have h5 := (do_chk h).2.2.2
  have k0 := ckok_c0 h5
  have k1 := ckok_edit k0 h (fun _ => by simp [c0])
  have n1 := chain_edit k0 (chain_c0 s) h
  have e1 : edL (c0 s) d = ⟨1, 5, 4, doS d s, true, d, false, []⟩ := rfl
  unfold hC
  rw [e1] at k1 n1 ⊢
  split
  · rename_i h2
    exact ⟨ckok_edit k1 h2 (fun x => by simp at x), chain_edit k1 n1 h2, rfl, rfl, rfl, rfl⟩
  · exact ⟨k1, n1, rfl, rfl, rfl, rfl⟩
theorem edit0_err (s : ByteArray) (d : List Pt) (A2 : Option Addr) (n2 c2 : Nat) (w : World) (hd : RdP w w.heap.size A2 n2 c2 d) (hss : s.size ≤ 140737488351232) (he : doE d s ≠ 0) :
    Calls Try.prog 69 #[.agg #[.int .i64 1, .int .i64 5, .int .i64 3, .string s, .bool false, .slice none 0 0, .bool false, .slice none 0 0], .slice A2 n2 c2] w fun e w' => ∃ E, E ≠ 0 ∧ e = .returned (.tuple #[clv ⟨0, 0, 0, ⟨#[]⟩, false, [], false, []⟩ (none, 0, 0) (none, 0, 0), .int .i64 E]) ∧ Below w.heap.size w w' := by
  by_cases h5 : s.size ≤ 500
  · have hk := ckok_c0 h5
    unfold c0 at hk
    refine (cedit_do 1 5 3 s false false [] [] none none 0 0 0 0 d A2 n2 c2 w hk ⟨rfl, Rd.nil _ _ _, by simp⟩ ⟨rfl, Rd.nil _ _ _, by simp⟩ hd (by decide) (by decide) he).mono ?_
    rintro e w' ⟨rfl, hb⟩
    exact ⟨_, he, rfl, hb⟩
  · refine (cedit_large 1 5 3 s false false none none 0 0 0 0 A2 n2 c2 w (by decide) (by decide) (by decide) (by decide) (by decide) (by decide) (by omega)).mono ?_
    rintro e w' ⟨rfl, hb⟩
    exact ⟨2, by decide, rfl, hb⟩
theorem rdnil_ (w : World) (B : Nat) : RdP w B none 0 0 [] := ⟨rfl, Rd.nil _ _ _, by simp⟩
theorem hand_err (s : ByteArray) (d f : List Pt) (A A' : Option Addr) (n n' cp cp' : Nat) (w : World) (hd : RdP w w.heap.size A n cp d) (hf : RdP w w.heap.size A' n' cp' f) (hss : s.size ≤ 140737488351232) (he : doE d s ≠ 0) :
    Calls Try.prog 31 #[.string s, .slice A n cp, .slice A' n' cp'] w fun e w' => e = .returned (.tuple #[clv ⟨0, 0, 0, ⟨#[]⟩, false, [], false, []⟩ (none, 0, 0) (none, 0, 0), .bool false]) ∧ Below w.heap.size w w' := by
  have Hd := Lib.hid hd
  clear hd hf
  have hb0 : Below w.heap.size w w := Below.refl _ _
  have hb1 := hb0.alloc hb0.size (.cells #[.int .i64 0, .int .i64 0, .int .i64 0, .string ⟨#[]⟩, .bool false, .slice none 0 0, .bool false, .slice none 0 0] 52)
  have kr := Blk.new w 52 #[.int .i64 0, .int .i64 0, .int .i64 0, .string ⟨#[]⟩, .bool false, .slice none 0 0, .bool false, .slice none 0 0]
  have hb2 := hb1.alloc hb1.size (.cells #[.int .i64 1, .int .i64 5, .int .i64 3, .string s, .bool false, .slice none 0 0, .bool false, .slice none 0 0] 52)
  replace kr := kr.alloc (.cells #[.int .i64 1, .int .i64 5, .int .i64 3, .string s, .bool false, .slice none 0 0, .bool false, .slice none 0 0] 52)
  have ko := Blk.new (w.alloc (.cells #[.int .i64 0, .int .i64 0, .int .i64 0, .string ⟨#[]⟩, .bool false, .slice none 0 0, .bool false, .slice none 0 0] 52)) 52 #[.int .i64 1, .int .i64 5, .int .i64 3, .string s, .bool false, .slice none 0 0, .bool false, .slice none 0 0]
  clear hb0 hb1
  have hb := hb2
  clear hb2
  simp only [World.size_alloc] at kr ko
  go_enter Try.func31, Try.ntmps31
  go_upto_region 2 with (fail)
  generalize ((w.alloc (.cells #[.int .i64 0, .int .i64 0, .int .i64 0, .string ⟨#[]⟩, .bool false, .slice none 0 0, .bool false, .slice none 0 0] 52)).alloc (.cells #[.int .i64 1, .int .i64 5, .int .i64 3, .string s, .bool false, .slice none 0 0, .bool false, .slice none 0 0] 52)) = W0 at *
  obtain ⟨g, hbase⟩ : ∃ g, w.heap.size = g := ⟨_, rfl⟩
  rw [hbase] at hb kr ko ⊢
  have hsz : g ≤ W0.heap.size := by have := hb.size; omega
  have lr := kr.lt
  have lo := ko.lt
  have Hd := Lib.hid (hbase ▸ Hd.out)
  go_wp2_with (first | (refine wpList_load_blk rfl _ (.tmp 8) rfl (g + 1) rfl _ (client_row ko rfl) ?_))
  refine (edit0_err s d A n cp W0 ((Hd.out.below hb).more hsz) hss he).mono ?_
  rintro e v1 ⟨E, hE, rfl, hv1⟩
  have hne : (E != 0) = true := by simpa using hE
  replace kr := kr.below hv1 kr.lt
  replace lr := kr.lt
  replace ko := ko.below hv1 ko.lt
  replace lo := ko.lt
  replace hb := hb.trans (hv1.mono hsz)
  replace hsz : g ≤ v1.heap.size := Nat.le_trans hsz hv1.size
  clear hv1
  unfold clv clc
  simp only
  go_upto_region 4 with (first | (refine wpList_store_blk rfl _ (.tmp 8) (.tmp 18) rfl (g + 1) #[.int .i64 0, .int .i64 0, .int .i64 0, .string ⟨#[]⟩, .bool false, .slice none 0 0, .bool false, .slice none 0 0] rfl rfl _ _ ko client_info rfl (by simp [Value.oneCell']) ?_))
  have ho2 := Only.setRow v1 (g + 1) #[.int .i64 0, .int .i64 0, .int .i64 0, .string ⟨#[]⟩, .bool false, .slice none 0 0, .bool false, .slice none 0 0]
  replace kr := kr.farRow (g' := g + 1) (by omega) #[.int .i64 0, .int .i64 0, .int .i64 0, .string ⟨#[]⟩, .bool false, .slice none 0 0, .bool false, .slice none 0 0]
  replace ko := ko.row #[.int .i64 0, .int .i64 0, .int .i64 0, .string ⟨#[]⟩, .bool false, .slice none 0 0, .bool false, .slice none 0 0]
  replace hb := below_setRow hb (g + 1) #[.int .i64 0, .int .i64 0, .int .i64 0, .string ⟨#[]⟩, .bool false, .slice none 0 0, .bool false, .slice none 0 0] (by omega)
  have hs2 : (v1.setRow (g + 1) #[.int .i64 0, .int .i64 0, .int .i64 0, .string ⟨#[]⟩, .bool false, .slice none 0 0, .bool false, .slice none 0 0]).heap.size = v1.heap.size := by simp
  generalize (v1.setRow (g + 1) #[.int .i64 0, .int .i64 0, .int .i64 0, .string ⟨#[]⟩, .bool false, .slice none 0 0, .bool false, .slice none 0 0]) = U2 at *
  replace hsz : g ≤ U2.heap.size := by omega
  replace lr := kr.lt
  replace lo := ko.lt
  go_wp2_with (first | (refine wpList_load_blk rfl _ (.tmp 8) rfl (g + 1) rfl _ (client_row ko rfl) ?_) | (refine wpList_store_blk rfl _ (.tmp 6) (.tmp 22) rfl g #[.int .i64 0, .int .i64 0, .int .i64 0, .string ⟨#[]⟩, .bool false, .slice none 0 0, .bool false, .slice none 0 0] rfl rfl _ _ kr client_info rfl (by simp [Value.oneCell']) ?_))
  have kz := kr.row #[.int .i64 0, .int .i64 0, .int .i64 0, .string ⟨#[]⟩, .bool false, .slice none 0 0, .bool false, .slice none 0 0]
  have hz := below_setRow hb g #[.int .i64 0, .int .i64 0, .int .i64 0, .string ⟨#[]⟩, .bool false, .slice none 0 0, .bool false, .slice none 0 0] (by omega)
  refine row_end2 rfl rfl rfl rfl (client_row kz rfl) ?_
  exact ⟨rfl, hbase ▸ hz⟩
theorem hand_two (s : ByteArray) (d f : List Pt) (A A' : Option Addr) (n n' cp cp' : Nat) (w : World) (hd : RdP w w.heap.size A n cp d) (hf : RdP w w.heap.size A' n' cp' f) (hss : s.size ≤ 140737488351232) (he : doE d s = 0) (he2 : doE f (edL (c0 s) d).text = 0) :
    Calls Try.prog 31 #[.string s, .slice A n cp, .slice A' n' cp'] w fun e w' => ∃ s1 h1 : Sl, e = .returned (.tuple #[clv (edL (edL (c0 s) d) f) s1 h1, .bool true]) ∧ OwnSl w' w.heap.size s1 (edL (edL (c0 s) d) f).sent ∧ OwnSl w' w.heap.size h1 (edL (edL (c0 s) d) f).held ∧ Below w.heap.size w w' := by
  have h5 := (do_chk he).2.2.2
  have k0 := ckok_c0 h5
  have k1 := ckok_edit k0 he (fun _ => by simp [c0])
  have hn : n ≤ 4000000 := by
    have h1 := (chk_parts (do_chk he).1).1
    have h2 := hd.1
    omega
  have Hd := Lib.hid hd
  have Hf := Lib.hid hf
  obtain ⟨C1, hC1⟩ : ∃ C1, edL (c0 s) d = C1 := ⟨_, rfl⟩
  have hcf : C1.fly = true := by rw [← hC1]; rfl
  rw [hC1] at k1 he2
  rw [hC1]
  have K0 := Lib.hid k0
  have K1 := Lib.hid k1
  have HC1 := Lib.hid hC1
  have He := Lib.hid he
  have He2 := Lib.hid he2
  have Hcf := Lib.hid hcf
  clear hd hf k0 k1 hC1 he he2 hcf
  obtain ⟨C2, hC2⟩ : ∃ C2, edL C1 f = C2 := ⟨_, rfl⟩
  rw [hC2]
  have HC2 := Lib.hid hC2
  clear hC2
  have hb0 : Below w.heap.size w w := Below.refl _ _
  have hb1 := hb0.alloc hb0.size (.cells #[.int .i64 0, .int .i64 0, .int .i64 0, .string ⟨#[]⟩, .bool false, .slice none 0 0, .bool false, .slice none 0 0] 52)
  have kr := Blk.new w 52 #[.int .i64 0, .int .i64 0, .int .i64 0, .string ⟨#[]⟩, .bool false, .slice none 0 0, .bool false, .slice none 0 0]
  have hb2 := hb1.alloc hb1.size (.cells #[.int .i64 1, .int .i64 5, .int .i64 3, .string s, .bool false, .slice none 0 0, .bool false, .slice none 0 0] 52)
  replace kr := kr.alloc (.cells #[.int .i64 1, .int .i64 5, .int .i64 3, .string s, .bool false, .slice none 0 0, .bool false, .slice none 0 0] 52)
  have ko := Blk.new (w.alloc (.cells #[.int .i64 0, .int .i64 0, .int .i64 0, .string ⟨#[]⟩, .bool false, .slice none 0 0, .bool false, .slice none 0 0] 52)) 52 #[.int .i64 1, .int .i64 5, .int .i64 3, .string s, .bool false, .slice none 0 0, .bool false, .slice none 0 0]
  clear hb0 hb1
  have hb := hb2
  clear hb2
  simp only [World.size_alloc] at kr ko
  go_enter Try.func31, Try.ntmps31
  go_upto_region 2 with (fail)
  generalize ((w.alloc (.cells #[.int .i64 0, .int .i64 0, .int .i64 0, .string ⟨#[]⟩, .bool false, .slice none 0 0, .bool false, .slice none 0 0] 52)).alloc (.cells #[.int .i64 1, .int .i64 5, .int .i64 3, .string s, .bool false, .slice none 0 0, .bool false, .slice none 0 0] 52)) = W0 at *
  obtain ⟨g, hbase⟩ : ∃ g, w.heap.size = g := ⟨_, rfl⟩
  rw [hbase] at hb kr ko ⊢
  have hsz : g ≤ W0.heap.size := by have := hb.size; omega
  have lr := kr.lt
  have lo := ko.lt
  have Hd := Lib.hid (hbase ▸ Hd.out)
  have Hf := Lib.hid (hbase ▸ Hf.out)
  go_wp2_with (first | (refine wpList_load_blk rfl _ (.tmp 8) rfl (g + 1) rfl _ (client_row ko rfl) ?_))
  have hc := cedit_good (c0 s) (none, 0, 0) (none, 0, 0) d A n cp W0 K0.out (rdnil_ _ _) (rdnil_ _ _) ((Hd.out.below hb).more hsz) (by decide) (by decide) He.out (fun _ => by simp [c0])
  rw [HC1.out] at hc
  refine hc.mono ?_
  clear hc
  rintro e v1 ⟨s1, h1, rfl, q1, q2, hv1⟩
  obtain ⟨Z, hZ⟩ : ∃ Z, W0.heap.size = Z := ⟨_, rfl⟩
  rw [hZ] at q1 q2
  have hgZ : g + 1 < Z := by omega
  obtain ⟨j1, j2⟩ := ckok_len K1.out
  obtain ⟨j3, j4⟩ := ckok_txt K1.out
  replace kr := kr.below hv1 kr.lt
  replace lr := kr.lt
  replace ko := ko.below hv1 ko.lt
  replace lo := ko.lt
  replace hb := hb.trans (hv1.mono hsz)
  replace hsz : g ≤ v1.heap.size := Nat.le_trans hsz hv1.size
  clear hv1
  have oS := Lib.hid q1
  have oH := Lib.hid q2
  clear q1 q2
  unfold clv clc
  simp only
  go_upto_region 5 with (first | (refine wpList_store_blk rfl _ (.tmp 8) (.tmp 18) rfl (g + 1) #[.int .i64 C1.who, .int .i64 C1.rev, .int .i64 C1.seq, .string C1.text, .bool C1.fly, .slice s1.1 s1.2.1 s1.2.2, .bool C1.wait, .slice h1.1 h1.2.1 h1.2.2] rfl rfl _ _ ko client_info rfl (by simp [Value.oneCell']) ?_))
  have ho1 := Only.setRow v1 (g + 1) #[.int .i64 C1.who, .int .i64 C1.rev, .int .i64 C1.seq, .string C1.text, .bool C1.fly, .slice s1.1 s1.2.1 s1.2.2, .bool C1.wait, .slice h1.1 h1.2.1 h1.2.2]
  replace oS := Lib.hid (own_only oS.out ho1 (fun k hk h_ => by rcases h_ with rfl; exact own_blk_ne oS.out ko (by decide) hk))
  replace oH := Lib.hid (own_only oH.out ho1 (fun k hk h_ => by rcases h_ with rfl; exact own_blk_ne oH.out ko (by decide) hk))
  replace kr := kr.farRow (g' := g + 1) (by omega) #[.int .i64 C1.who, .int .i64 C1.rev, .int .i64 C1.seq, .string C1.text, .bool C1.fly, .slice s1.1 s1.2.1 s1.2.2, .bool C1.wait, .slice h1.1 h1.2.1 h1.2.2]
  replace ko := ko.row #[.int .i64 C1.who, .int .i64 C1.rev, .int .i64 C1.seq, .string C1.text, .bool C1.fly, .slice s1.1 s1.2.1 s1.2.2, .bool C1.wait, .slice h1.1 h1.2.1 h1.2.2]
  replace hb := below_setRow hb (g + 1) #[.int .i64 C1.who, .int .i64 C1.rev, .int .i64 C1.seq, .string C1.text, .bool C1.fly, .slice s1.1 s1.2.1 s1.2.2, .bool C1.wait, .slice h1.1 h1.2.1 h1.2.2] (by omega)
  have hs1 : (v1.setRow (g + 1) #[.int .i64 C1.who, .int .i64 C1.rev, .int .i64 C1.seq, .string C1.text, .bool C1.fly, .slice s1.1 s1.2.1 s1.2.2, .bool C1.wait, .slice h1.1 h1.2.1 h1.2.2]).heap.size = v1.heap.size := by simp
  generalize (v1.setRow (g + 1) #[.int .i64 C1.who, .int .i64 C1.rev, .int .i64 C1.seq, .string C1.text, .bool C1.fly, .slice s1.1 s1.2.1 s1.2.2, .bool C1.wait, .slice h1.1 h1.2.1 h1.2.2]) = U1 at *
  replace hsz : g ≤ U1.heap.size := by omega
  replace lr := kr.lt
  replace lo := ko.lt
  have rS := rdS_ oS.out j3
  have rH := rdS_ oH.out j4
  go_wp2_with (first | (refine wpList_load_blk rfl _ (.tmp 8) rfl (g + 1) rfl _ (client_row ko rfl) ?_))
  have hc := cedit_good C1 s1 h1 f A' n' cp' U1 K1.out rS rH ((Hf.out.below hb).more hsz) (by have := rS.1; omega) (by have := rH.1; omega) He2.out (fun x => by rw [Hcf.out] at x; simp at x)
  rw [HC2.out] at hc
  refine hc.mono ?_
  clear hc
  rintro e v2 ⟨s2, h2, rfl, q1, q2, hv2⟩
  clear rS rH oS oH
  obtain ⟨Y, hY⟩ : ∃ Y, U1.heap.size = Y := ⟨_, rfl⟩
  rw [hY] at q1 q2
  have hgY : g + 1 < Y := by omega
  replace kr := kr.below hv2 kr.lt
  replace lr := kr.lt
  replace ko := ko.below hv2 ko.lt
  replace lo := ko.lt
  replace hb := hb.trans (hv2.mono hsz)
  replace hsz : g ≤ v2.heap.size := Nat.le_trans hsz hv2.size
  clear hv2
  have oS := Lib.hid q1
  have oH := Lib.hid q2
  clear q1 q2
  unfold clv clc
  simp only
  go_upto_region 6 with (fail)
  replace kr := kr.alloc (.cells #[.int .i64 C2.who, .int .i64 C2.rev, .int .i64 C2.seq, .string C2.text, .bool C2.fly, .slice s2.1 s2.2.1 s2.2.2, .bool C2.wait, .slice h2.1 h2.2.1 h2.2.2] 52)
  replace ko := ko.alloc (.cells #[.int .i64 C2.who, .int .i64 C2.rev, .int .i64 C2.seq, .string C2.text, .bool C2.fly, .slice s2.1 s2.2.1 s2.2.2, .bool C2.wait, .slice h2.1 h2.2.1 h2.2.2] 52)
  have kx := Blk.new v2 52 #[.int .i64 C2.who, .int .i64 C2.rev, .int .i64 C2.seq, .string C2.text, .bool C2.fly, .slice s2.1 s2.2.1 s2.2.2, .bool C2.wait, .slice h2.1 h2.2.1 h2.2.2]
  replace oS := Lib.hid (World.ownsRow.alloc oS.out (.cells #[.int .i64 C2.who, .int .i64 C2.rev, .int .i64 C2.seq, .string C2.text, .bool C2.fly, .slice s2.1 s2.2.1 s2.2.2, .bool C2.wait, .slice h2.1 h2.2.1 h2.2.2] 52))
  replace oH := Lib.hid (World.ownsRow.alloc oH.out (.cells #[.int .i64 C2.who, .int .i64 C2.rev, .int .i64 C2.seq, .string C2.text, .bool C2.fly, .slice s2.1 s2.2.1 s2.2.2, .bool C2.wait, .slice h2.1 h2.2.1 h2.2.2] 52))
  replace hb := hb.alloc hsz (.cells #[.int .i64 C2.who, .int .i64 C2.rev, .int .i64 C2.seq, .string C2.text, .bool C2.fly, .slice s2.1 s2.2.1 s2.2.2, .bool C2.wait, .slice h2.1 h2.2.1 h2.2.2] 52)
  have hs2 : (v2.alloc (.cells #[.int .i64 C2.who, .int .i64 C2.rev, .int .i64 C2.seq, .string C2.text, .bool C2.fly, .slice s2.1 s2.2.1 s2.2.2, .bool C2.wait, .slice h2.1 h2.2.1 h2.2.2] 52)).heap.size = v2.heap.size + 1 := by simp
  generalize (v2.alloc (.cells #[.int .i64 C2.who, .int .i64 C2.rev, .int .i64 C2.seq, .string C2.text, .bool C2.fly, .slice s2.1 s2.2.1 s2.2.2, .bool C2.wait, .slice h2.1 h2.2.1 h2.2.2] 52)) = U2 at *
  obtain ⟨b, heb⟩ : ∃ b, v2.heap.size = b := ⟨_, rfl⟩
  rw [heb] at kx ⊢
  have nb2 : g ≤ b := by omega
  replace hsz : g ≤ U2.heap.size := by omega
  have nq2_r : g < b := by omega
  have nq2_o : g + 1 < b := by omega
  have lx := kx.lt
  go_upto_region 8 with (first | (refine wpList_load_blk rfl _ (.tmp 10) rfl b rfl _ (client_row kx rfl) ?_) | (refine wpList_store_blk rfl _ (.tmp 8) (.tmp 31) rfl (g + 1) #[.int .i64 C2.who, .int .i64 C2.rev, .int .i64 C2.seq, .string C2.text, .bool C2.fly, .slice s2.1 s2.2.1 s2.2.2, .bool C2.wait, .slice h2.1 h2.2.1 h2.2.2] rfl rfl _ _ ko client_info rfl (by simp [Value.oneCell']) ?_))
  have ho3 := Only.setRow U2 (g + 1) #[.int .i64 C2.who, .int .i64 C2.rev, .int .i64 C2.seq, .string C2.text, .bool C2.fly, .slice s2.1 s2.2.1 s2.2.2, .bool C2.wait, .slice h2.1 h2.2.1 h2.2.2]
  replace oS := Lib.hid (own_only oS.out ho3 (fun k hk h_ => by rcases h_ with rfl; exact own_blk_ne oS.out ko (by decide) hk))
  replace oH := Lib.hid (own_only oH.out ho3 (fun k hk h_ => by rcases h_ with rfl; exact own_blk_ne oH.out ko (by decide) hk))
  replace kr := kr.farRow (g' := g + 1) (by omega) #[.int .i64 C2.who, .int .i64 C2.rev, .int .i64 C2.seq, .string C2.text, .bool C2.fly, .slice s2.1 s2.2.1 s2.2.2, .bool C2.wait, .slice h2.1 h2.2.1 h2.2.2]
  replace ko := ko.row #[.int .i64 C2.who, .int .i64 C2.rev, .int .i64 C2.seq, .string C2.text, .bool C2.fly, .slice s2.1 s2.2.1 s2.2.2, .bool C2.wait, .slice h2.1 h2.2.1 h2.2.2]
  replace kx := kx.farRow (g' := g + 1) (by omega) #[.int .i64 C2.who, .int .i64 C2.rev, .int .i64 C2.seq, .string C2.text, .bool C2.fly, .slice s2.1 s2.2.1 s2.2.2, .bool C2.wait, .slice h2.1 h2.2.1 h2.2.2]
  replace hb := below_setRow hb (g + 1) #[.int .i64 C2.who, .int .i64 C2.rev, .int .i64 C2.seq, .string C2.text, .bool C2.fly, .slice s2.1 s2.2.1 s2.2.2, .bool C2.wait, .slice h2.1 h2.2.1 h2.2.2] (by omega)
  have hs3 : (U2.setRow (g + 1) #[.int .i64 C2.who, .int .i64 C2.rev, .int .i64 C2.seq, .string C2.text, .bool C2.fly, .slice s2.1 s2.2.1 s2.2.2, .bool C2.wait, .slice h2.1 h2.2.1 h2.2.2]).heap.size = U2.heap.size := by simp
  generalize (U2.setRow (g + 1) #[.int .i64 C2.who, .int .i64 C2.rev, .int .i64 C2.seq, .string C2.text, .bool C2.fly, .slice s2.1 s2.2.1 s2.2.2, .bool C2.wait, .slice h2.1 h2.2.1 h2.2.2]) = U3 at *
  replace hsz : g ≤ U3.heap.size := by omega
  replace lr := kr.lt
  replace lo := ko.lt
  replace lx := kx.lt
  go_wp2_with (first | (refine wpList_load_blk rfl _ (.tmp 8) rfl (g + 1) rfl _ (client_row ko rfl) ?_) | (refine wpList_store_blk rfl _ (.tmp 6) (.tmp 32) rfl g #[.int .i64 C2.who, .int .i64 C2.rev, .int .i64 C2.seq, .string C2.text, .bool C2.fly, .slice s2.1 s2.2.1 s2.2.2, .bool C2.wait, .slice h2.1 h2.2.1 h2.2.2] rfl rfl _ _ kr client_info rfl (by simp [Value.oneCell']) ?_))
  have kz := kr.row #[.int .i64 C2.who, .int .i64 C2.rev, .int .i64 C2.seq, .string C2.text, .bool C2.fly, .slice s2.1 s2.2.1 s2.2.2, .bool C2.wait, .slice h2.1 h2.2.1 h2.2.2]
  have hz := below_setRow hb g #[.int .i64 C2.who, .int .i64 C2.rev, .int .i64 C2.seq, .string C2.text, .bool C2.fly, .slice s2.1 s2.2.1 s2.2.2, .bool C2.wait, .slice h2.1 h2.2.1 h2.2.2] (by omega)
  have hzo := Only.setRow U3 g #[.int .i64 C2.who, .int .i64 C2.rev, .int .i64 C2.seq, .string C2.text, .bool C2.fly, .slice s2.1 s2.2.1 s2.2.2, .bool C2.wait, .slice h2.1 h2.2.1 h2.2.2]
  have zS := own_only oS.out hzo (fun k hk h_ => by rcases h_ with rfl; exact own_blk_ne oS.out kr (by decide) hk)
  have zH := own_only oH.out hzo (fun k hk h_ => by rcases h_ with rfl; exact own_blk_ne oH.out kr (by decide) hk)
  refine row_end2 rfl rfl rfl rfl (client_row kz rfl) ?_
  exact ⟨s2, h2, rfl, own_base zS (by omega), own_base zH (by omega), hbase ▸ hz⟩
theorem hand_one (s : ByteArray) (d f : List Pt) (A A' : Option Addr) (n n' cp cp' : Nat) (w : World) (hd : RdP w w.heap.size A n cp d) (hf : RdP w w.heap.size A' n' cp' f) (hss : s.size ≤ 140737488351232) (he : doE d s = 0) (he2 : doE f (edL (c0 s) d).text ≠ 0) :
    Calls Try.prog 31 #[.string s, .slice A n cp, .slice A' n' cp'] w fun e w' => ∃ s1 h1 : Sl, e = .returned (.tuple #[clv (edL (c0 s) d) s1 h1, .bool true]) ∧ OwnSl w' w.heap.size s1 (edL (c0 s) d).sent ∧ OwnSl w' w.heap.size h1 (edL (c0 s) d).held ∧ Below w.heap.size w w' := by
  have h5 := (do_chk he).2.2.2
  have k0 := ckok_c0 h5
  have k1 := ckok_edit k0 he (fun _ => by simp [c0])
  have hn : n ≤ 4000000 := by
    have h1 := (chk_parts (do_chk he).1).1
    have h2 := hd.1
    omega
  have Hd := Lib.hid hd
  have Hf := Lib.hid hf
  obtain ⟨C1, hC1⟩ : ∃ C1, edL (c0 s) d = C1 := ⟨_, rfl⟩
  have hcf : C1.fly = true := by rw [← hC1]; rfl
  rw [hC1] at k1 he2
  rw [hC1]
  have K0 := Lib.hid k0
  have K1 := Lib.hid k1
  have HC1 := Lib.hid hC1
  have He := Lib.hid he
  have He2 := Lib.hid he2
  have Hcf := Lib.hid hcf
  clear hd hf k0 k1 hC1 he he2 hcf
  have hb0 : Below w.heap.size w w := Below.refl _ _
  have hb1 := hb0.alloc hb0.size (.cells #[.int .i64 0, .int .i64 0, .int .i64 0, .string ⟨#[]⟩, .bool false, .slice none 0 0, .bool false, .slice none 0 0] 52)
  have kr := Blk.new w 52 #[.int .i64 0, .int .i64 0, .int .i64 0, .string ⟨#[]⟩, .bool false, .slice none 0 0, .bool false, .slice none 0 0]
  have hb2 := hb1.alloc hb1.size (.cells #[.int .i64 1, .int .i64 5, .int .i64 3, .string s, .bool false, .slice none 0 0, .bool false, .slice none 0 0] 52)
  replace kr := kr.alloc (.cells #[.int .i64 1, .int .i64 5, .int .i64 3, .string s, .bool false, .slice none 0 0, .bool false, .slice none 0 0] 52)
  have ko := Blk.new (w.alloc (.cells #[.int .i64 0, .int .i64 0, .int .i64 0, .string ⟨#[]⟩, .bool false, .slice none 0 0, .bool false, .slice none 0 0] 52)) 52 #[.int .i64 1, .int .i64 5, .int .i64 3, .string s, .bool false, .slice none 0 0, .bool false, .slice none 0 0]
  clear hb0 hb1
  have hb := hb2
  clear hb2
  simp only [World.size_alloc] at kr ko
  go_enter Try.func31, Try.ntmps31
  go_upto_region 2 with (fail)
  generalize ((w.alloc (.cells #[.int .i64 0, .int .i64 0, .int .i64 0, .string ⟨#[]⟩, .bool false, .slice none 0 0, .bool false, .slice none 0 0] 52)).alloc (.cells #[.int .i64 1, .int .i64 5, .int .i64 3, .string s, .bool false, .slice none 0 0, .bool false, .slice none 0 0] 52)) = W0 at *
  obtain ⟨g, hbase⟩ : ∃ g, w.heap.size = g := ⟨_, rfl⟩
  rw [hbase] at hb kr ko ⊢
  have hsz : g ≤ W0.heap.size := by have := hb.size; omega
  have lr := kr.lt
  have lo := ko.lt
  have Hd := Lib.hid (hbase ▸ Hd.out)
  have Hf := Lib.hid (hbase ▸ Hf.out)
  go_wp2_with (first | (refine wpList_load_blk rfl _ (.tmp 8) rfl (g + 1) rfl _ (client_row ko rfl) ?_))
  have hc := cedit_good (c0 s) (none, 0, 0) (none, 0, 0) d A n cp W0 K0.out (rdnil_ _ _) (rdnil_ _ _) ((Hd.out.below hb).more hsz) (by decide) (by decide) He.out (fun _ => by simp [c0])
  rw [HC1.out] at hc
  refine hc.mono ?_
  clear hc
  rintro e v1 ⟨s1, h1, rfl, q1, q2, hv1⟩
  obtain ⟨Z, hZ⟩ : ∃ Z, W0.heap.size = Z := ⟨_, rfl⟩
  rw [hZ] at q1 q2
  have hgZ : g + 1 < Z := by omega
  obtain ⟨j1, j2⟩ := ckok_len K1.out
  obtain ⟨j3, j4⟩ := ckok_txt K1.out
  replace kr := kr.below hv1 kr.lt
  replace lr := kr.lt
  replace ko := ko.below hv1 ko.lt
  replace lo := ko.lt
  replace hb := hb.trans (hv1.mono hsz)
  replace hsz : g ≤ v1.heap.size := Nat.le_trans hsz hv1.size
  clear hv1
  have oS := Lib.hid q1
  have oH := Lib.hid q2
  clear q1 q2
  unfold clv clc
  simp only
  go_upto_region 5 with (first | (refine wpList_store_blk rfl _ (.tmp 8) (.tmp 18) rfl (g + 1) #[.int .i64 C1.who, .int .i64 C1.rev, .int .i64 C1.seq, .string C1.text, .bool C1.fly, .slice s1.1 s1.2.1 s1.2.2, .bool C1.wait, .slice h1.1 h1.2.1 h1.2.2] rfl rfl _ _ ko client_info rfl (by simp [Value.oneCell']) ?_))
  have ho1 := Only.setRow v1 (g + 1) #[.int .i64 C1.who, .int .i64 C1.rev, .int .i64 C1.seq, .string C1.text, .bool C1.fly, .slice s1.1 s1.2.1 s1.2.2, .bool C1.wait, .slice h1.1 h1.2.1 h1.2.2]
  replace oS := Lib.hid (own_only oS.out ho1 (fun k hk h_ => by rcases h_ with rfl; exact own_blk_ne oS.out ko (by decide) hk))
  replace oH := Lib.hid (own_only oH.out ho1 (fun k hk h_ => by rcases h_ with rfl; exact own_blk_ne oH.out ko (by decide) hk))
  replace kr := kr.farRow (g' := g + 1) (by omega) #[.int .i64 C1.who, .int .i64 C1.rev, .int .i64 C1.seq, .string C1.text, .bool C1.fly, .slice s1.1 s1.2.1 s1.2.2, .bool C1.wait, .slice h1.1 h1.2.1 h1.2.2]
  replace ko := ko.row #[.int .i64 C1.who, .int .i64 C1.rev, .int .i64 C1.seq, .string C1.text, .bool C1.fly, .slice s1.1 s1.2.1 s1.2.2, .bool C1.wait, .slice h1.1 h1.2.1 h1.2.2]
  replace hb := below_setRow hb (g + 1) #[.int .i64 C1.who, .int .i64 C1.rev, .int .i64 C1.seq, .string C1.text, .bool C1.fly, .slice s1.1 s1.2.1 s1.2.2, .bool C1.wait, .slice h1.1 h1.2.1 h1.2.2] (by omega)
  have hs1 : (v1.setRow (g + 1) #[.int .i64 C1.who, .int .i64 C1.rev, .int .i64 C1.seq, .string C1.text, .bool C1.fly, .slice s1.1 s1.2.1 s1.2.2, .bool C1.wait, .slice h1.1 h1.2.1 h1.2.2]).heap.size = v1.heap.size := by simp
  generalize (v1.setRow (g + 1) #[.int .i64 C1.who, .int .i64 C1.rev, .int .i64 C1.seq, .string C1.text, .bool C1.fly, .slice s1.1 s1.2.1 s1.2.2, .bool C1.wait, .slice h1.1 h1.2.1 h1.2.2]) = U1 at *
  replace hsz : g ≤ U1.heap.size := by omega
  replace lr := kr.lt
  replace lo := ko.lt
  have rS := rdS_ oS.out j3
  have rH := rdS_ oH.out j4
  go_wp2_with (first | (refine wpList_load_blk rfl _ (.tmp 8) rfl (g + 1) rfl _ (client_row ko rfl) ?_))
  have hc := cedit_do C1.who C1.rev C1.seq C1.text C1.fly C1.wait C1.sent C1.held s1.1 h1.1 s1.2.1 h1.2.1 s1.2.2 h1.2.2 f A' n' cp' U1 K1.out rS rH ((Hf.out.below hb).more hsz) (by have := rS.1; omega) (by have := rH.1; omega) He2.out
  have hne : (doE f C1.text == 0) = false := by simpa using He2.out
  refine hc.mono ?_
  clear hc rS rH
  rintro e v2 ⟨rfl, hv2⟩
  replace kr := kr.below hv2 kr.lt
  replace lr := kr.lt
  replace ko := ko.below hv2 ko.lt
  replace lo := ko.lt
  replace oS := Lib.hid (own_below oS.out hv2)
  replace oH := Lib.hid (own_below oH.out hv2)
  replace hb := hb.trans (hv2.mono hsz)
  replace hsz : g ≤ v2.heap.size := Nat.le_trans hsz hv2.size
  clear hv2
  unfold clv clc
  simp only
  go_upto_region 6 with (fail)
  replace kr := kr.alloc (.cells #[.int .i64 0, .int .i64 0, .int .i64 0, .string ⟨#[]⟩, .bool false, .slice none 0 0, .bool false, .slice none 0 0] 52)
  replace ko := ko.alloc (.cells #[.int .i64 0, .int .i64 0, .int .i64 0, .string ⟨#[]⟩, .bool false, .slice none 0 0, .bool false, .slice none 0 0] 52)
  have kx := Blk.new v2 52 #[.int .i64 0, .int .i64 0, .int .i64 0, .string ⟨#[]⟩, .bool false, .slice none 0 0, .bool false, .slice none 0 0]
  replace oS := Lib.hid (World.ownsRow.alloc oS.out (.cells #[.int .i64 0, .int .i64 0, .int .i64 0, .string ⟨#[]⟩, .bool false, .slice none 0 0, .bool false, .slice none 0 0] 52))
  replace oH := Lib.hid (World.ownsRow.alloc oH.out (.cells #[.int .i64 0, .int .i64 0, .int .i64 0, .string ⟨#[]⟩, .bool false, .slice none 0 0, .bool false, .slice none 0 0] 52))
  replace hb := hb.alloc hsz (.cells #[.int .i64 0, .int .i64 0, .int .i64 0, .string ⟨#[]⟩, .bool false, .slice none 0 0, .bool false, .slice none 0 0] 52)
  have hs2 : (v2.alloc (.cells #[.int .i64 0, .int .i64 0, .int .i64 0, .string ⟨#[]⟩, .bool false, .slice none 0 0, .bool false, .slice none 0 0] 52)).heap.size = v2.heap.size + 1 := by simp
  generalize (v2.alloc (.cells #[.int .i64 0, .int .i64 0, .int .i64 0, .string ⟨#[]⟩, .bool false, .slice none 0 0, .bool false, .slice none 0 0] 52)) = U2 at *
  obtain ⟨b, heb⟩ : ∃ b, v2.heap.size = b := ⟨_, rfl⟩
  rw [heb] at kx ⊢
  have nb2 : g ≤ b := by omega
  replace hsz : g ≤ U2.heap.size := by omega
  have nq2_r : g < b := by omega
  have nq2_o : g + 1 < b := by omega
  have lx := kx.lt
  go_upto_region 8 with (fail)
  go_wp2_with (first | (refine wpList_load_blk rfl _ (.tmp 8) rfl (g + 1) rfl _ (client_row ko rfl) ?_) | (refine wpList_store_blk rfl _ (.tmp 6) (.tmp 32) rfl g #[.int .i64 C1.who, .int .i64 C1.rev, .int .i64 C1.seq, .string C1.text, .bool C1.fly, .slice s1.1 s1.2.1 s1.2.2, .bool C1.wait, .slice h1.1 h1.2.1 h1.2.2] rfl rfl _ _ kr client_info rfl (by simp [Value.oneCell']) ?_))
  have kz := kr.row #[.int .i64 C1.who, .int .i64 C1.rev, .int .i64 C1.seq, .string C1.text, .bool C1.fly, .slice s1.1 s1.2.1 s1.2.2, .bool C1.wait, .slice h1.1 h1.2.1 h1.2.2]
  have hz := below_setRow hb g #[.int .i64 C1.who, .int .i64 C1.rev, .int .i64 C1.seq, .string C1.text, .bool C1.fly, .slice s1.1 s1.2.1 s1.2.2, .bool C1.wait, .slice h1.1 h1.2.1 h1.2.2] (by omega)
  have hzo := Only.setRow U2 g #[.int .i64 C1.who, .int .i64 C1.rev, .int .i64 C1.seq, .string C1.text, .bool C1.fly, .slice s1.1 s1.2.1 s1.2.2, .bool C1.wait, .slice h1.1 h1.2.1 h1.2.2]
  have zS := own_only oS.out hzo (fun k hk h_ => by rcases h_ with rfl; exact own_blk_ne oS.out kr (by decide) hk)
  have zH := own_only oH.out hzo (fun k hk h_ => by rcases h_ with rfl; exact own_blk_ne oH.out kr (by decide) hk)
  refine row_end2 rfl rfl rfl rfl (client_row kz rfl) ?_
  exact ⟨s1, h1, rfl, own_base zS (by omega), own_base zH (by omega), hbase ▸ hz⟩
theorem hand_ok (s : ByteArray) (d f : List Pt) (A A' : Option Addr) (n n' cp cp' : Nat) (w : World) (hd : RdP w w.heap.size A n cp d) (hf : RdP w w.heap.size A' n' cp' f) (hss : s.size ≤ 140737488351232) (he : doE d s = 0) :
    Calls Try.prog 31 #[.string s, .slice A n cp, .slice A' n' cp'] w fun e w' => ∃ s1 h1 : Sl, e = .returned (.tuple #[clv (hC s d f) s1 h1, .bool true]) ∧ OwnSl w' w.heap.size s1 (hC s d f).sent ∧ OwnSl w' w.heap.size h1 (hC s d f).held ∧ Below w.heap.size w w' := by
  unfold hC
  by_cases h : doE f (edL (c0 s) d).text = 0
  · rw [if_pos h]
    exact hand_two s d f A A' n n' cp cp' w hd hf hss he h
  · rw [if_neg h]
    exact hand_one s d f A A' n n' cp cp' w hd hf hss he h
end Go.Proofs.Ytfncpcmaplhojaa
namespace Go.Proofs.Ytfncpcmaplhojaa
open Go.ChangeShapes Go.WideShapes Go.RowKit
set_option linter.unusedVariables false
set_option linter.unusedSimpArgs false
set_option maxRecDepth 100000
set_option maxHeartbeats 4000000

theorem cell_far {w : World} {g i : Nat} {v : Value} {p : Addr} (h : g ≠ p.block) : (w.setCell ⟨g, i, none⟩ v).cell? p = w.cell? p := by
  simp only [World.cell?]
  rw [Below.heap_setCell w ⟨g, i, none⟩ v p.block (by simpa using fun h2 => h h2.symm)]
theorem RdP.far {w : World} {B b o n c g i : Nat} {l : List Pt} {v : Value} (h : RdP w B (some ⟨b, o, none⟩) n c l) (hne : g ≠ b) : RdP (w.setCell ⟨g, i, none⟩ v) B (some ⟨b, o, none⟩) n c l := by
  refine ⟨h.1, ⟨h.2.1.1, h.2.1.2.1, h.2.1.2.2.1, fun hn => ?_⟩, h.2.2⟩
  obtain ⟨b', o', e, hb, hc⟩ := h.2.1.2.2.2 hn
  refine ⟨b', o', e, hb, fun j u hj => ?_⟩
  rw [cell_far (by injection e with e; injection e with e1 e2; show g ≠ b'; rw [← e1]; exact hne)]
  exact hc j u hj
theorem RdR.built (w : World) (cs : Array Value) (l : List Rv) (ss : List Sl) (n : Nat) (hn : n = l.length) (hs : ss.length = l.length) (hc : cs.toList = rc l ss) (hm : n ≤ maxLen)
    (hp : ∀ k (h : k < l.length), RdP w w.heap.size (ss[k]'(by omega)).1 (ss[k]'(by omega)).2.1 (ss[k]'(by omega)).2.2 l[k].2.2) :
    RdR (w.alloc (.cells cs 29)) (w.alloc (.cells cs 29)).heap.size (some ⟨w.heap.size, 0, none⟩) n n l := by
  refine ⟨hn, ss, hs, ?_, fun k hk => (hp k hk).stepA _⟩
  rw [← hc, World.size_alloc]
  exact Rd.built w _ cs (by have := congrArg List.length hc; simp only [Array.length_toList] at this; rw [rc_len l ss hs] at this; omega) hm
theorem RdR.built1 (w : World) (a b : Int) (A : Option Addr) (n c : Nat) (d : List Pt) (h : RdP w w.heap.size A n c d) :
    RdR (w.alloc (.cells #[.int .i64 a, .int .i64 b, .slice A n c] 29)) (w.alloc (.cells #[.int .i64 a, .int .i64 b, .slice A n c] 29)).heap.size (some ⟨w.heap.size, 0, none⟩) 1 1 [(a, b, d)] :=
  RdR.built w _ [(a, b, d)] [(A, n, c)] 1 rfl rfl rfl (by decide) fun k hk => by
    obtain rfl : k = 0 := by simp at hk; omega
    exact h
theorem RdR.built2 (w : World) (a b a' b' : Int) (A A' : Option Addr) (n c n' c' : Nat) (d d' : List Pt) (h : RdP w w.heap.size A n c d) (h' : RdP w w.heap.size A' n' c' d') :
    RdR (w.alloc (.cells #[.int .i64 a, .int .i64 b, .slice A n c, .int .i64 a', .int .i64 b', .slice A' n' c'] 29)) (w.alloc (.cells #[.int .i64 a, .int .i64 b, .slice A n c, .int .i64 a', .int .i64 b', .slice A' n' c'] 29)).heap.size (some ⟨w.heap.size, 0, none⟩) 2 2 [(a, b, d), (a', b', d')] :=
  RdR.built w _ [(a, b, d), (a', b', d')] [(A, n, c), (A', n', c')] 2 rfl rfl rfl (by decide) fun k hk => by
    rcases (show k = 0 ∨ k = 1 by simp at hk; omega) with rfl | rfl
    · exact h
    · exact h'
theorem first_any (s : ByteArray) (hs : s.size ≤ 140737488351232) (w : World) :
    Calls Try.prog 16 #[.string s] w fun e w' => ∃ A, e = .returned (.agg #[.int .i64 1, .int .i64 1, .slice A 1 1]) ∧ RdP w' w'.heap.size A 1 1 [(2, 0, s)] ∧ Below w.heap.size w w' := by
  have kb := Blk.new w 29 #[.int .i64 0, .int .i64 0, .slice none 0 0]
  have hb0 := (Below.refl w.heap.size w).alloc (Nat.le_refl _) (.cells #[.int .i64 0, .int .i64 0, .slice none 0 0] 29)
  go_enter Try.func16, Try.ntmps16
  go_wp2_with fail
  refine (put_any s hs _).mono ?_
  rintro e w1 ⟨A, rfl, hr, hb⟩
  have k1 := kb.below hb kb.lt
  have hw1 := hb0.trans (hb.mono hb0.size)
  have c0 := k1.cell 0
  have c1 := k1.cell 1
  have c2 := k1.cell 2
  have f0 := k1.frozen 0
  have f1 := k1.frozen 1
  have f2 := k1.frozen 2
  have l1 := k1.lt
  obtain ⟨b, o, rfl, hbb, hc0, hc1_⟩ := hr.at_ 0 (by omega)
  clear hc1_
  have hne : w.heap.size ≠ b := by
    rintro rfl
    have := k1.cell o
    rw [Nat.zero_mul, Nat.add_zero] at hc0
    rw [hc0] at this
    match o with
    | 0 => simp at this
    | 1 => simp at this
    | 2 => simp at this
    | o + 3 => simp at this
  have Hr := Lib.hid hr
  have Hne := Lib.hid hne
  have Hw := Lib.hid hw1
  clear hr hb hw1 hb0 kb hc0 hne
  go_wp2_with fail
  exact bodyPost_ret (v := .agg #[.int .i64 1, .int .i64 1, .slice (some ⟨b, o, none⟩) 1 1]) (by simp [results, Try.results16, go_sem, c0, c1, c2]) rfl
    ⟨_, rfl, by simpa using ((Hr.out.far Hne.out).far Hne.out).far Hne.out, ((Hw.out.setCell (Nat.le_refl _) _).setCell (Nat.le_refl _) _).setCell (Nat.le_refl _) _⟩
end Go.Proofs.Ytfncpcmaplhojaa
