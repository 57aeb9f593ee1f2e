/- Clients: what stays true of them (pure). -/
import Derived.Test.YtfncpcmaplhojaaCIn
namespace Go.Proofs.Ytfncpcmaplhojaa
set_option linter.unusedVariables false
set_option linter.unusedSimpArgs false

theorem chk_grp (us : List U) (h : Cn us) : chk (grp us) = 0 ∨ chk (grp us) = 2 := by
  have h1 := chkL_fine (grp us) 0 (by
    cases us with
    | nil => right; rfl
    | cons u r => left; rw [hk_grp]; unfold kU one; split <;> simp) (by simp) (adj_grp us h) (fine_grp us)
  unfold chk
  split
  · exact .inr rfl
  · rcases h1 with h1 | h1
    · rw [if_neg (by rw [h1]; simp)]
      split
      · exact .inr rfl
      · exact .inl rfl
    · rw [if_pos (by rw [h1]; decide)]
      exact .inr h1
theorem meet_02 {a b : List Pt} (ha : chk a = 0) (hb : chk b = 0) (hn : nI (units a) = nI (units b)) : meetE a b = 0 ∨ meetE a b = 2 := by
  have h1 : chk (meet1 a b) = 0 ∨ chk (meet1 a b) = 2 := chk_grp _ (cn_cz _)
  have h2 : chk (meet2 a b) = 0 ∨ chk (meet2 a b) = 2 := chk_grp _ (cn_cz _)
  unfold meetE
  rw [if_neg (by simpa using ha), if_neg (by simpa using hb), if_neg (by simpa using hn)]
  rcases h1 with h1 | h1
  · rw [if_neg (by rw [h1]; simp)]; exact h2
  · rw [if_pos (by rw [h1]; decide)]; exact .inr h1
/-- the client's text is S, and then what it sent, and then what it holds -/
structure Chain (c : Cl) (S : ByteArray) : Prop where
  idle : c.fly = false → c.text = S
  sent : c.fly = true → doE c.sent S = 0
  flies : c.fly = true → c.wait = false → c.text = doS c.sent S
  held : c.wait = true → doE c.held (doS c.sent S) = 0
  waits : c.wait = true → c.text = doS c.held (doS c.sent S)
theorem ckok_edit {c : Cl} {d : List Pt} (h : CkOk c) (he : doE d c.text = 0) (hq : c.fly = false → c.seq < 2147483647) : CkOk (edL c d) := by
  obtain ⟨k1, k2, k3, k4⟩ := do_chk he
  have k5 := do_size he
  have k6 := do_le he
  obtain ⟨a, r, sq, t, f, S, q, H⟩ := c
  obtain ⟨h1, h2, h3, h4, h5, h6, h7, h8, h9, h10, h11, h12⟩ := h
  simp only at *
  unfold edL
  cases f with
  | false =>
    have hq0 : q = false := by cases q with
      | false => rfl
      | true => exact absurd (h10 rfl) (by simp)
    subst hq0
    exact ⟨h1, h2, h3, h4, by simp only [↓reduceIte]; omega, by have := hq rfl; simp only [↓reduceIte]; omega, k6, fun x => by simp at x, h9, fun x => by simp at x, fun x => by simp at x, fun _ => ⟨k1, by simpa using k5.symm⟩⟩
  | true =>
    cases q with
    | false =>
      have h13 := h12 rfl
      simp only [Bool.false_eq_true, ↓reduceIte] at h13
      exact ⟨h1, h2, h3, h4, h5, h6, k6, h8, fun x => by simp at x, fun _ => rfl, fun _ => ⟨k1, k5.symm⟩, fun _ => ⟨h13.1, by simp only [↓reduceIte, Bool.true_eq_false]; omega⟩⟩
    | true =>
      have h13 := h12 rfl
      have h14 := h11 rfl
      simp only [↓reduceIte] at h13
      have hc := comp_zero h14.1 k1 (by omega)
      have hs := comp_sizes hc
      exact ⟨h1, h2, h3, h4, h5, h6, k6, h8, fun x => by simp at x, fun _ => rfl, fun _ => ⟨(comp_chk hc).2.2.2.2, by simp only [↓reduceIte, Bool.true_eq_false]; omega⟩, fun _ => ⟨h13.1, by simp only [↓reduceIte, Bool.true_eq_false]; omega⟩⟩
theorem chain_edit {c : Cl} {d : List Pt} {S : ByteArray} (hk : CkOk c) (h : Chain c S) (he : doE d c.text = 0) : Chain (edL c d) S := by
  obtain ⟨a, r, sq, t, f, s, q, H⟩ := c
  obtain ⟨i1, i2, i3, i4, i5⟩ := h
  simp only at *
  unfold edL
  cases f with
  | false =>
    obtain rfl := i1 rfl
    have hq0 : q = false := by cases q with
      | false => rfl
      | true => exact absurd (hk.wf rfl) (by simp)
    subst hq0
    exact ⟨fun x => by simp at x, fun _ => he, fun _ _ => rfl, fun x => by simp at x, fun x => by simp at x⟩
  | true =>
    cases q with
    | false =>
      have e := i3 rfl rfl
      subst e
      exact ⟨fun x => by simp at x, fun _ => i2 rfl, fun _ x => by simp at x, fun _ => he, fun _ => rfl⟩
    | true =>
      have e := i5 rfl
      have hH := i4 rfl
      subst e
      obtain ⟨-, j1, j2⟩ := comp_do hH he
      exact ⟨fun x => by simp at x, fun _ => i2 rfl, fun _ x => by simp at x, fun _ => j1, fun _ => j2.symm⟩
theorem ckok_own {c : Cl} (h : CkOk c) (hf : c.fly = true) (hr : c.rev < 2147483647) (hm : c.wait = true → c.seq < 2147483647) : CkOk (inO c) := by
  obtain ⟨a, r, sq, t, f, S, q, H⟩ := c
  obtain ⟨h1, h2, h3, h4, h5, h6, h7, h8, h9, h10, h11, h12⟩ := h
  simp only at *
  subst hf
  cases q with
  | false => exact ⟨h1, h2, by simp [inO]; omega, by simp [inO]; omega, by simpa [inO] using h5, by simpa [inO] using h6, h7, fun _ => h9 rfl, fun _ => rfl, fun x => by simp [inO] at x, fun x => by simp [inO] at x, fun x => by simp [inO] at x⟩
  | true =>
    have := hm rfl
    have h11 := h11 rfl
    exact ⟨h1, h2, by simp [inO]; omega, by simp [inO]; omega, by simp [inO]; omega, by simp [inO]; omega, h7, fun x => by simp [inO] at x, fun _ => rfl, fun x => by simp [inO] at x, fun x => by simp [inO] at x, fun _ => ⟨h11.1, by simpa [inO] using h11.2⟩⟩
theorem chain_own {c : Cl} {S : ByteArray} (hk : CkOk c) (h : Chain c S) (hf : c.fly = true) : Chain (inO c) (doS c.sent S) := by
  obtain ⟨a, r, sq, t, f, s, q, H⟩ := c
  obtain ⟨i1, i2, i3, i4, i5⟩ := h
  simp only at *
  subst hf
  cases q with
  | false => exact ⟨fun _ => i3 rfl rfl, fun x => by simp [inO] at x, fun x => by simp [inO] at x, fun x => by simp [inO] at x, fun x => by simp [inO] at x⟩
  | true => exact ⟨fun x => by simp [inO] at x, fun _ => i4 rfl, fun _ _ => i5 rfl, fun x => by simp [inO] at x, fun x => by simp [inO] at x⟩
/-- another's message comes in: it fits, or it is too large -/
theorem in_cases {c : Cl} {S : ByteArray} {d : List Pt} (hk : CkOk c) (h : Chain c S) (hd : doE d S = 0) (hr : c.rev < 2147483647) :
    inE c d = 2 ∨ (inE c d = 0 ∧ CkOk (inL c d) ∧ Chain (inL c d) (doS d S)) := by
  obtain ⟨k1, k2, k3, k4⟩ := do_chk hd
  obtain ⟨a, r, sq, t, f, s, q, H⟩ := c
  obtain ⟨i1, i2, i3, i4, i5⟩ := h
  obtain ⟨h1, h2, h3, h4, h5, h6, h7, h8, h9, h10, h11, h12⟩ := hk
  simp only at *
  cases f with
  | false =>
    obtain rfl := i1 rfl
    have hq0 : q = false := by cases q with
      | false => rfl
      | true => exact absurd (h10 rfl) (by simp)
    subst hq0
    right
    refine ⟨by simp [inE, in1E, in2E, in2D, in1D, k1, hd], ?_, ?_⟩
    · exact ⟨h1, h2, by simp only [inL]; omega, by simp only [inL]; omega, h5, h6, by simpa [inL, in2D, in1D] using do_le hd, h8, h9, h10, fun x => by simp [inL] at x, fun x => by simp [inL] at x⟩
    · exact ⟨fun _ => by simp [inL, in2D, in1D], fun x => by simp [inL] at x, fun x => by simp [inL] at x, fun x => by simp [inL] at x, fun x => by simp [inL] at x⟩
  | true =>
    have j2 := i2 rfl
    obtain ⟨s1, s2, s3, s4⟩ := do_chk j2
    rcases meet_02 k1 s1 (by omega) with e1 | e1
    · obtain ⟨m1, m2, m3⟩ := meet_do e1 hd j2
      have g1 := meet_good e1
      have z1 := meet_sizes e1
      cases q with
      | false =>
        have e := i3 rfl rfl
        subst e
        right
        refine ⟨by simp [inE, in1E, in2E, in2D, in1D, k1, e1, m2], ?_, ?_⟩
        · exact ⟨h1, h2, by simp only [inL]; omega, by simp only [inL]; omega, h5, h6, by simpa [inL, in2D, in1D] using do_le m2, fun x => by simp [inL] at x, h9, h10, fun x => by simp [inL] at x, fun _ => ⟨by simpa [inL, in1S] using g1.2, by have := do_size m2; simp [inL, in1S, in2D, in1D]; omega⟩⟩
        · exact ⟨fun x => by simp [inL] at x, fun _ => by simpa [inL, in1S] using m1, fun _ _ => by simpa [inL, in1S, in2D, in1D] using m3.symm, fun x => by simp [inL] at x, fun x => by simp [inL] at x⟩
      | true =>
        have e := i5 rfl
        have j4 := i4 rfl
        subst e
        obtain ⟨t1, t2, t3, t4⟩ := do_chk j4
        obtain ⟨u1, u2, u3, u4⟩ := do_chk m2
        rcases meet_02 u1 t1 (by omega) with e2 | e2
        · obtain ⟨n1, n2, n3⟩ := meet_do e2 m2 j4
          have g2 := meet_good e2
          have z2 := meet_sizes e2
          right
          refine ⟨by simp [inE, in1E, in2E, in2D, in1D, k1, e1, e2, n2], ?_, ?_⟩
          · exact ⟨h1, h2, by simp only [inL]; omega, by simp only [inL]; omega, h5, h6, by simpa [inL, in2D, in1D] using do_le n2, fun x => by simp [inL] at x, fun x => by simp [inL] at x, h10,
              fun _ => ⟨by simpa [inL, in2H, in1D] using g2.2, by have := do_size n2; simp [inL, in2H, in2D, in1D]; omega⟩, fun _ => ⟨by simpa [inL, in1S] using g1.2, by simp [inL, in1S, in2H, in1D]; omega⟩⟩
          · refine ⟨fun x => by simp [inL] at x, fun _ => by simpa [inL, in1S] using m1, fun _ x => by simp [inL] at x, fun _ => ?_, fun _ => ?_⟩
            · simp only [inL, in1S, in2H, in1D, ↓reduceIte]; rw [m3]; exact n1
            · simp only [inL, in1S, in2H, in2D, in1D, ↓reduceIte]; rw [m3]; exact n3.symm
        · left
          simp [inE, in1E, in2E, in1D, k1, e1, e2]
    · left
      simp [inE, in1E, k1, e1]
/-- how long the slices of a right client are -/
theorem ckok_len {c : Cl} (h : CkOk c) : c.sent.length ≤ 1600 ∧ c.held.length ≤ 1600 := by
  constructor
  · cases hf : c.fly with
    | false => rw [h.sent0 hf]; simp
    | true => exact (chk_parts (h.sk hf).1).1
  · cases hf : c.wait with
    | false => rw [h.held0 hf]; simp
    | true => exact (chk_parts (h.hk hf).1).1
theorem ckok_txt {c : Cl} (h : CkOk c) : (∀ p ∈ c.sent, p.2.2.size ≤ 140737488351232) ∧ (∀ p ∈ c.held, p.2.2.size ≤ 140737488351232) := by
  constructor
  · cases hf : c.fly with
    | false => rw [h.sent0 hf]; simp
    | true => exact text_good (h.sk hf).1
  · cases hf : c.wait with
    | false => rw [h.held0 hf]; simp
    | true => exact text_good (h.hk hf).1
end Go.Proofs.Ytfncpcmaplhojaa
