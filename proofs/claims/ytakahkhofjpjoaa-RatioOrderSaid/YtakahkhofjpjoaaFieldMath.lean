/- The plain laws behind RatioField and RatioOrder. No program. -/
import Derived.Test.YtakahkhofjpjoaaMath
namespace Go.Proofs
namespace R12
/-- 'Make of x and y is the valid ratio N / D' -/
def Is (x y N D : Int) : Prop := mkN x y = N ∧ mkD x y = D ∧ mkE x y = 0
/-- a valid ratio, of at most so great numbers -/
structure Val (N D : Int) (A B : Nat) : Prop where
  ok : okB N D = true
  n : N.natAbs ≤ A
  d : D.natAbs ≤ B
theorem Val.pos {N D : Int} {A B : Nat} (h : Val N D A B) : 1 ≤ D := (okB_iff.1 h.ok).1
theorem Val.mono {N D : Int} {A B A' B' : Nat} (h : Val N D A B) (ha : A ≤ A') (hb : B ≤ B') : Val N D A' B' := ⟨h.ok, Nat.le_trans h.n ha, Nat.le_trans h.d hb⟩
/-- a quotient of small numbers is a valid ratio, equal to it -/
theorem is_mk {x y : Int} {A B : Nat} (hy : y ≠ 0) (hx : x.natAbs ≤ A) (hyb : y.natAbs ≤ B) (hA : A ≤ 1073741824) (hB : B ≤ 1073741824) :
    ∃ N D, Is x y N D ∧ Val N D A B ∧ N * y = x * D := by
  have he : mkE x y = 0 := mk_le hy (by omega) (by omega) (by omega) (by omega)
  obtain ⟨h1, h2, h3, h4, h5⟩ := mk_spec hy he
  exact ⟨_, _, ⟨rfl, rfl, he⟩, ⟨h1, by omega, by omega⟩, h2⟩
/-- equal quotients make one ratio -/
theorem Is.same {x y x' y' N D : Int} (h : Is x y N D) (hy : y ≠ 0) (hy' : y' ≠ 0) (e : x' * y = x * y') : Is x' y' N D := by
  obtain ⟨e1, e2, e3⟩ := mk_eq hy' hy e
  exact ⟨e1.trans h.1, e2.trans h.2.1, e3.trans h.2.2⟩
theorem is_self {N D : Int} {A B : Nat} (h : Val N D A B) : Is N D N D := mk_okB h.ok
theorem nz_mul {a b : Int} (ha : a ≠ 0) (hb : b ≠ 0) : a * b ≠ 0 := fun e => by rcases Int.mul_eq_zero.1 e with e | e <;> omega
theorem nat_mul_le {a b : Int} {A B : Nat} (ha : a.natAbs ≤ A) (hb : b.natAbs ≤ B) : (a * b).natAbs ≤ A * B := by rw [Int.natAbs_mul]; exact Nat.mul_le_mul ha hb
theorem cancel {a b c : Int} (hc : c ≠ 0) (h : a * c = b * c) : a = b := Int.eq_of_mul_eq_mul_right hc h
theorem l_back {a1 a2 b1 b2 s1 s2 : Int} (es : s1 * (a2 * b2) = (a1 * b2 + b1 * a2) * s2) : (s1 * b2 - b1 * s2) * a2 * b2 = a1 * (s2 * b2) * b2 := by grind
theorem l_same {a1 a2 b1 b2 c1 c2 s1 s2 t1 t2 : Int} (es : s1 * (a2 * b2) = (a1 * b2 + b1 * a2) * s2) (et : t1 * (b2 * c2) = (b1 * c2 + c1 * b2) * t2) :
    (s1 * c2 + c1 * s2) * (a2 * t2) * (b2 * c2) * (a2 * b2) = (a1 * t2 + t1 * a2) * (s2 * c2) * (b2 * c2) * (a2 * b2) := by grind
theorem l_ar {a1 a2 b1 b2 c1 c2 p1 p2 r1 r2 : Int} (ep : p1 * (a2 * b2) = a1 * b1 * p2) (er : r1 * (b2 * c2) = b1 * c1 * r2) :
    a1 * r1 * (p2 * c2) * (b2 * c2) * (a2 * b2) = p1 * c1 * (a2 * r2) * (b2 * c2) * (a2 * b2) := by grind
theorem l_sum {a1 a2 b1 b2 c1 c2 p1 p2 z1 z2 t1 t2 : Int} (ep : p1 * (a2 * b2) = a1 * b1 * p2) (ez : z1 * (a2 * c2) = a1 * c1 * z2) (et : t1 * (b2 * c2) = (b1 * c2 + c1 * b2) * t2) :
    (p1 * z2 + z1 * p2) * (a2 * t2) * (a2 * c2) * (b2 * c2) * (a2 * b2) = a1 * t1 * (p2 * z2) * (a2 * c2) * (b2 * c2) * (a2 * b2) := by grind
theorem l_undone {a1 a2 b1 b2 p1 p2 : Int} (ep : p1 * (a2 * b2) = a1 * b1 * p2) : p1 * b2 * a2 = a1 * (p2 * b1) := by grind
/-- all that RatioField compares -/
structure Field (a1 a2 b1 b2 c1 c2 : Int) (s1 s2 p1 p2 t1 t2 u1 u2 r1 r2 x1 x2 z1 z2 : Int) : Prop where
  vs : okB s1 s2 = true
  vp : okB p1 p2 = true
  vt : okB t1 t2 = true
  vr : okB r1 r2 = true
  vz : okB z1 z2 = true
  ab : Is (a1 * b2 + b1 * a2) (a2 * b2) s1 s2
  ba : Is (b1 * a2 + a1 * b2) (b2 * a2) s1 s2
  p : Is (a1 * b1) (a2 * b2) p1 p2
  q : Is (b1 * a1) (b2 * a2) p1 p2
  back : Is (s1 * b2 - b1 * s2) (s2 * b2) a1 a2
  bc : Is (b1 * c2 + c1 * b2) (b2 * c2) t1 t2
  same : mkN (s1 * c2 + c1 * s2) (s2 * c2) = mkN (a1 * t2 + t1 * a2) (a2 * t2) ∧ mkD (s1 * c2 + c1 * s2) (s2 * c2) = mkD (a1 * t2 + t1 * a2) (a2 * t2) ∧ mkE (s1 * c2 + c1 * s2) (s2 * c2) = mkE (a1 * t2 + t1 * a2) (a2 * t2)
  lim : mkE (a1 * t2 + t1 * a2) (a2 * t2) = 0 ∨ mkE (a1 * t2 + t1 * a2) (a2 * t2) = 2
  pc : Is (p1 * c1) (p2 * c2) u1 u2
  r : Is (b1 * c1) (b2 * c2) r1 r2
  ar : Is (a1 * r1) (a2 * r2) u1 u2
  abc : Is (a1 * t1) (a2 * t2) x1 x2
  ac : Is (a1 * c1) (a2 * c2) z1 z2
  sum : Is (p1 * z2 + z1 * p2) (p2 * z2) x1 x2
  undone : b1 ≠ 0 → Is (p1 * b2) (p2 * b1) a1 a2
theorem field_law {a1 a2 b1 b2 c1 c2 : Int} (ha : Val a1 a2 511 1024) (hb : Val b1 b2 511 1024) (hc : Val c1 c2 511 1024) :
    ∃ s1 s2 p1 p2 t1 t2 u1 u2 r1 r2 x1 x2 z1 z2, Field a1 a2 b1 b2 c1 c2 s1 s2 p1 p2 t1 t2 u1 u2 r1 r2 x1 x2 z1 z2 := by
  have a2p := ha.pos; have b2p := hb.pos; have c2p := hc.pos
  have a2n : a2 ≠ 0 := by omega
  have b2n : b2 ≠ 0 := by omega
  have c2n : c2 ≠ 0 := by omega
  obtain ⟨s1, s2, hs, vs, es⟩ := is_mk (x := a1 * b2 + b1 * a2) (y := a2 * b2) (A := 1046528) (B := 1048576) (nz_mul a2n b2n)
    (by have := nat_mul_le ha.n hb.d; have := nat_mul_le hb.n ha.d; omega) (by have := nat_mul_le ha.d hb.d; omega) (by omega) (by omega)
  obtain ⟨p1, p2, hp, vp, ep⟩ := is_mk (x := a1 * b1) (y := a2 * b2) (A := 261121) (B := 1048576) (nz_mul a2n b2n)
    (by have := nat_mul_le ha.n hb.n; omega) (by have := nat_mul_le ha.d hb.d; omega) (by omega) (by omega)
  obtain ⟨t1, t2, ht, vt, et⟩ := is_mk (x := b1 * c2 + c1 * b2) (y := b2 * c2) (A := 1046528) (B := 1048576) (nz_mul b2n c2n)
    (by have := nat_mul_le hb.n hc.d; have := nat_mul_le hc.n hb.d; omega) (by have := nat_mul_le hb.d hc.d; omega) (by omega) (by omega)
  have s2p := vs.pos; have p2p := vp.pos; have t2p := vt.pos
  have s2n : s2 ≠ 0 := by omega
  have p2n : p2 ≠ 0 := by omega
  have t2n : t2 ≠ 0 := by omega
  obtain ⟨u1, u2, hu, vu, eu⟩ := is_mk (x := p1 * c1) (y := p2 * c2) (A := 133432831) (B := 1073741824) (nz_mul p2n c2n)
    (by have := nat_mul_le vp.n hc.n; omega) (by have := nat_mul_le vp.d hc.d; omega) (by omega) (by omega)
  obtain ⟨r1, r2, hr, vr, er⟩ := is_mk (x := b1 * c1) (y := b2 * c2) (A := 261121) (B := 1048576) (nz_mul b2n c2n)
    (by have := nat_mul_le hb.n hc.n; omega) (by have := nat_mul_le hb.d hc.d; omega) (by omega) (by omega)
  have r2p := vr.pos
  have r2n : r2 ≠ 0 := by omega
  obtain ⟨x1, x2, hx, vx, ex⟩ := is_mk (x := a1 * t1) (y := a2 * t2) (A := 534775808) (B := 1073741824) (nz_mul a2n t2n)
    (by have := nat_mul_le ha.n vt.n; omega) (by have := nat_mul_le ha.d vt.d; omega) (by omega) (by omega)
  obtain ⟨z1, z2, hz, vz, ez⟩ := is_mk (x := a1 * c1) (y := a2 * c2) (A := 261121) (B := 1048576) (nz_mul a2n c2n)
    (by have := nat_mul_le ha.n hc.n; omega) (by have := nat_mul_le ha.d hc.d; omega) (by omega) (by omega)
  have z2p := vz.pos
  have z2n : z2 ≠ 0 := by omega
  have abn := nz_mul a2n b2n
  have bcn := nz_mul b2n c2n
  have acn := nz_mul a2n c2n
  refine ⟨s1, s2, p1, p2, t1, t2, u1, u2, r1, r2, x1, x2, z1, z2, ⟨vs.ok, vp.ok, vt.ok, vr.ok, vz.ok, hs, hs.same abn (nz_mul b2n a2n) (by grind), hp, hp.same abn (nz_mul b2n a2n) (by grind), ?_, ht, ?_, ?_, hu, hr, ?_, hx, hz, ?_, ?_⟩⟩
  · exact (is_self ha).same a2n (nz_mul s2n b2n) (cancel b2n (l_back es))
  · exact mk_eq (nz_mul s2n c2n) (nz_mul a2n t2n) (cancel bcn (cancel abn (l_same es et)))
  · exact mk_cases (nz_mul a2n t2n)
  · exact hu.same (nz_mul p2n c2n) (nz_mul a2n r2n) (cancel bcn (cancel abn (l_ar ep er)))
  · exact hx.same (nz_mul a2n t2n) (nz_mul p2n z2n) (cancel acn (cancel bcn (cancel abn (l_sum ep ez et))))
  · intro hb1
    exact (is_self ha).same a2n (nz_mul p2n hb1) (l_undone ep)
end R12
end Go.Proofs
