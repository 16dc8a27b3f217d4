/- Plain laws of the product of matrices: determinants multiply, the inverse undoes. Conditions: at most three rows. -/
import Derived.Test.YtdchckljggjaaaaInv5
import Derived.Test.YtdchckljggjaaaaTimes2
namespace Go.Proofs.Ytdchckljggjaaaa
open Go.RowKit
set_option linter.unusedVariables false
set_option linter.unusedSimpArgs false
set_option maxRecDepth 100000

theorem mdot1 (a x : Int) : dotW [a] [x] = wrap64 (a * x) := by
  simp only [dotW, dotTo, nth, List.length_cons, List.length_nil, List.getD_cons_zero, Nat.zero_add, Int.zero_add, wrap64_wrap]
theorem mdot2 (a b x y : Int) : dotW [a, b] [x, y] = wrap64 (a * x + b * y) := by
  simp only [dotW, dotTo, nth, List.length_cons, List.length_nil, List.getD_cons_zero, List.getD_cons_succ, Nat.zero_add, Int.zero_add, wrap64_wrap, wrap64_add_l, wrap64_add_r]
theorem mdot3 (a b c x y z : Int) : dotW [a, b, c] [x, y, z] = wrap64 (a * x + b * y + c * z) := by
  simp only [dotW, dotTo, nth, List.length_cons, List.length_nil, List.getD_cons_zero, List.getD_cons_succ, Nat.zero_add, Int.zero_add, wrap64_wrap, wrap64_add_l, wrap64_add_r]
theorem times1 (a p : Int) : timesW [[a]] [[p]] = [[wrap64 (p * a)]] := by
  show [[dotW [p] [a]]] = _
  rw [mdot1]
theorem times2 (a b c d p q r s : Int) : timesW [[a, b], [c, d]] [[p, q], [r, s]] = [[wrap64 (p * a + r * b), wrap64 (q * a + s * b)], [wrap64 (p * c + r * d), wrap64 (q * c + s * d)]] := by
  show [[dotW [p, r] [a, b], dotW [q, s] [a, b]], [dotW [p, r] [c, d], dotW [q, s] [c, d]]] = _
  simp only [mdot2]
theorem times3 (a b c d e f g h i p q r s t u v x y : Int) : timesW [[a, b, c], [d, e, f], [g, h, i]] [[p, q, r], [s, t, u], [v, x, y]] =
    [[wrap64 (p * a + s * b + v * c), wrap64 (q * a + t * b + x * c), wrap64 (r * a + u * b + y * c)],
     [wrap64 (p * d + s * e + v * f), wrap64 (q * d + t * e + x * f), wrap64 (r * d + u * e + y * f)],
     [wrap64 (p * g + s * h + v * i), wrap64 (q * g + t * h + x * i), wrap64 (r * g + u * h + y * i)]] := by
  show [[dotW [p, s, v] [a, b, c], dotW [q, t, x] [a, b, c], dotW [r, u, y] [a, b, c]], [dotW [p, s, v] [d, e, f], dotW [q, t, x] [d, e, f], dotW [r, u, y] [d, e, f]], [dotW [p, s, v] [g, h, i], dotW [q, t, x] [g, h, i], dotW [r, u, y] [g, h, i]]] = _
  simp only [mdot3]

def D2 (a b c d : Int) : Int := a * d - b * c
def D3 (a b c d e f g h i : Int) : Int := a * (e * i - f * h) - b * (d * i - f * g) + c * (d * h - e * g)
theorem D2_mul (a b c d p q r s : Int) : D2 (p * a + r * b) (q * a + s * b) (p * c + r * d) (q * c + s * d) = D2 a b c d * D2 p q r s := by unfold D2; grind
theorem D3_mul (a b c d e f g h i p q r s t u v x y : Int) :
    D3 (p * a + s * b + v * c) (q * a + t * b + x * c) (r * a + u * b + y * c) (p * d + s * e + v * f) (q * d + t * e + x * f) (r * d + u * e + y * f) (p * g + s * h + v * i) (q * g + t * h + x * i) (r * g + u * h + y * i)
      = D3 a b c d e f g h i * D3 p q r s t u v x y := by unfold D3; grind

/-- The determinant of a product. -/
theorem times_det {a b c : List (List Int)} (hc : timesV a b = (c, true)) : detV c = detV a * detV b := by
  unfold timesV at hc
  split at hc
  · rename_i h
    obtain ⟨ha, hb, hl⟩ := h
    obtain ⟨hs, h1, h3, hr⟩ := isMat_facts ha
    obtain ⟨hs', _, _, hr'⟩ := isMat_facts hb
    rw [← hl] at hs'
    cases hm : isMat (timesW a b)
    · rw [matIf_no hm] at hc; cases hc
    rw [matIf_yes hm] at hc
    have ec : timesW a b = c := congrArg Prod.fst hc
    rw [ec] at hm
    rw [show detV c = detS c by simp [detV, hm], show detV a = detS a by simp [detV, ha], show detV b = detS b by simp [detV, hb], ← ec]
    generalize a.length = n at *
    have hh : n = 1 ∨ n = 2 ∨ n = 3 := by omega
    rcases hh with rfl | rfl | rfl
    · obtain ⟨a, rfl⟩ := hs.one
      obtain ⟨p, rfl⟩ := hs'.one
      have xa : Abs 100 a := hr [a] (by simp) a (by simp)
      have xp : Abs 100 p := hr' [p] (by simp) p (by simp)
      rw [times1, (xp.mul xa).wrap (by omega)]
      show p * a = a * p
      exact Int.mul_comm _ _
    · obtain ⟨a, b, c, d, rfl⟩ := hs.two
      obtain ⟨p, q, r, s, rfl⟩ := hs'.two
      have xa : Abs 100 a := hr [a, b] (by simp) a (by simp)
      have xb : Abs 100 b := hr [a, b] (by simp) b (by simp)
      have xc : Abs 100 c := hr [c, d] (by simp) c (by simp)
      have xd : Abs 100 d := hr [c, d] (by simp) d (by simp)
      have xp : Abs 100 p := hr' [p, q] (by simp) p (by simp)
      have xq : Abs 100 q := hr' [p, q] (by simp) q (by simp)
      have xr : Abs 100 r := hr' [r, s] (by simp) r (by simp)
      have xs : Abs 100 s := hr' [r, s] (by simp) s (by simp)
      rw [times2, ((xp.mul xa).add (xr.mul xb)).wrap (by omega), ((xq.mul xa).add (xs.mul xb)).wrap (by omega), ((xp.mul xc).add (xr.mul xd)).wrap (by omega), ((xq.mul xc).add (xs.mul xd)).wrap (by omega),
        detS_two, detS_two, detS_two]
      have h1 : Abs 20000 (D2 a b c d) := (xa.mul xd).sub (xb.mul xc)
      have h2 : Abs 20000 (D2 p q r s) := (xp.mul xs).sub (xq.mul xr)
      have h3 := D2_mul a b c d p q r s
      change wrap64 (D2 _ _ _ _) = wrap64 (D2 a b c d) * wrap64 (D2 p q r s)
      rw [h3, (h1.mul h2).wrap (by omega), h1.wrap (by omega), h2.wrap (by omega)]
    · obtain ⟨a, b, c, d, e, f, g, h, i, rfl⟩ := hs.three
      obtain ⟨p, q, r, s, t, u, v, x, y, rfl⟩ := hs'.three
      have xa : Abs 100 a := hr [a, b, c] (by simp) a (by simp)
      have xb : Abs 100 b := hr [a, b, c] (by simp) b (by simp)
      have xc : Abs 100 c := hr [a, b, c] (by simp) c (by simp)
      have xd : Abs 100 d := hr [d, e, f] (by simp) d (by simp)
      have xe : Abs 100 e := hr [d, e, f] (by simp) e (by simp)
      have xf : Abs 100 f := hr [d, e, f] (by simp) f (by simp)
      have xg : Abs 100 g := hr [g, h, i] (by simp) g (by simp)
      have xh : Abs 100 h := hr [g, h, i] (by simp) h (by simp)
      have xi : Abs 100 i := hr [g, h, i] (by simp) i (by simp)
      have yp : Abs 100 p := hr' [p, q, r] (by simp) p (by simp)
      have yq : Abs 100 q := hr' [p, q, r] (by simp) q (by simp)
      have yr : Abs 100 r := hr' [p, q, r] (by simp) r (by simp)
      have ys : Abs 100 s := hr' [s, t, u] (by simp) s (by simp)
      have yt : Abs 100 t := hr' [s, t, u] (by simp) t (by simp)
      have yu : Abs 100 u := hr' [s, t, u] (by simp) u (by simp)
      have yv : Abs 100 v := hr' [v, x, y] (by simp) v (by simp)
      have yx : Abs 100 x := hr' [v, x, y] (by simp) x (by simp)
      have yy : Abs 100 y := hr' [v, x, y] (by simp) y (by simp)
      have dot : ∀ {k l m n o z : Int}, Abs 100 k → Abs 100 l → Abs 100 m → Abs 100 n → Abs 100 o → Abs 100 z → wrap64 (k * l + m * n + o * z) = k * l + m * n + o * z := fun h1 h2 h3 h4 h5 h6 =>
        (((h1.mul h2).add (h3.mul h4)).add (h5.mul h6)).wrap (by omega)
      rw [times3, dot yp xa ys xb yv xc, dot yq xa yt xb yx xc, dot yr xa yu xb yy xc, dot yp xd ys xe yv xf, dot yq xd yt xe yx xf, dot yr xd yu xe yy xf, dot yp xg ys xh yv xi, dot yq xg yt xh yx xi, dot yr xg yu xh yy xi,
        detS_three, detS_three, detS_three]
      have h1 : Abs 6000000 (D3 a b c d e f g h i) := ((xa.mul ((xe.mul xi).sub (xf.mul xh))).sub (xb.mul ((xd.mul xi).sub (xf.mul xg)))).add (xc.mul ((xd.mul xh).sub (xe.mul xg)))
      have h2 : Abs 6000000 (D3 p q r s t u v x y) := ((yp.mul ((yt.mul yy).sub (yu.mul yx))).sub (yq.mul ((ys.mul yy).sub (yu.mul yv)))).add (yr.mul ((ys.mul yx).sub (yt.mul yv)))
      have h3 := D3_mul a b c d e f g h i p q r s t u v x y
      change wrap64 (D3 _ _ _ _ _ _ _ _ _) = wrap64 (D3 a b c d e f g h i) * wrap64 (D3 p q r s t u v x y)
      rw [h3, (h1.mul h2).wrap (by omega), h1.wrap (by omega), h2.wrap (by omega)]
  · cases hc

/-- The unit matrix. -/
def unitL (n : Nat) : List (List Int) := (List.range n).map fun r => (List.range n).map fun k => if r = k then 1 else 0

theorem madj1 (a : Int) : adjW [[a]] 1 = [[1]] := by
  simp [adjW, adjRow, adjAt, List.range_succ, detF]
theorem madj2 (a b c d : Int) : adjW [[a, b], [c, d]] 2 = [[detF 1 [[d]], wrap64 (-detF 1 [[b]])], [wrap64 (-detF 1 [[c]]), detF 1 [[a]]]] := by
  simp [adjW, adjRow, adjAt, List.range_succ, minorL, minorTo, nthR, cutAt]
theorem madj3 (a b c d e f g h i : Int) : adjW [[a, b, c], [d, e, f], [g, h, i]] 3 =
    [[detF 2 [[e, f], [h, i]], wrap64 (-detF 2 [[b, c], [h, i]]), detF 2 [[b, c], [e, f]]],
     [wrap64 (-detF 2 [[d, f], [g, i]]), detF 2 [[a, c], [g, i]], wrap64 (-detF 2 [[a, c], [d, f]])],
     [detF 2 [[d, e], [g, h]], wrap64 (-detF 2 [[a, b], [g, h]]), detF 2 [[a, b], [d, e]]]] := by
  simp [adjW, adjRow, adjAt, List.range_succ, minorL, minorTo, nthR, cutAt]

/-- The inverse undoes. -/
theorem inv_law {m i : List (List Int)} (hi : invV m = (i, true)) : timesV m i = (unitL m.length, true) ∧ 1 ≤ m.length ∧ m.length ≤ 3 := by
  unfold invV at hi
  split at hi
  · rename_i hu
    have hm : isMat m = true := by
      cases h : isMat m
      · simp [unimV, detV, h] at hu
      · rfl
    obtain ⟨hs, h1, h3, hr⟩ := isMat_facts hm
    cases hmi : isMat (invW m)
    · rw [matIf_no hmi] at hi; cases hi
    rw [matIf_yes hmi] at hi
    have ei : invW m = i := congrArg Prod.fst hi
    have hd : detV m = 1 ∨ detV m = -1 := by
      unfold unimV at hu
      simp only [beq_iff_eq] at hu
      omega
    have hdv : detV m = detS m := by simp [detV, hm]
    have key : timesW m (invW m) = unitL m.length ∧ isMat (unitL m.length) = true := by
      have hh : m.length = 1 ∨ m.length = 2 ∨ m.length = 3 := by omega
      rcases hh with hn | hn | hn
      · rw [hn] at hs
        obtain ⟨a, rfl⟩ := hs.one
        refine ⟨?_, by rw [hn]; decide⟩
        have e : detS [[a]] = a := rfl
        rw [hdv, e] at hd
        have e1 : invW [[a]] = [[wrap64 (1 * detV [[a]])]] := by
          unfold invW
          rw [show [[a]].length = 1 from rfl, madj1]; rfl
        rw [e1, times1, hdv, e]
        rcases hd with rfl | rfl <;> simp [wrap64, unitL, List.range_succ]
      · rw [hn] at hs
        obtain ⟨a, b, c, d, rfl⟩ := hs.two
        refine ⟨?_, by rw [hn]; decide⟩
        have xa : Abs 100 a := hr [a, b] (by simp) a (by simp)
        have xb : Abs 100 b := hr [a, b] (by simp) b (by simp)
        have xc : Abs 100 c := hr [c, d] (by simp) c (by simp)
        have xd : Abs 100 d := hr [c, d] (by simp) d (by simp)
        have h1 : Abs 20000 (D2 a b c d) := (xa.mul xd).sub (xb.mul xc)
        have e : detS [[a, b], [c, d]] = D2 a b c d := by rw [detS_two]; exact h1.wrap (by omega)
        rw [hdv, e] at hd
        have e1 : invW [[a, b], [c, d]] = [[wrap64 (d * detV [[a, b], [c, d]]), wrap64 (-b * detV [[a, b], [c, d]])], [wrap64 (-c * detV [[a, b], [c, d]]), wrap64 (a * detV [[a, b], [c, d]])]] := by
          unfold invW
          rw [show [[a, b], [c, d]].length = 2 from rfl, madj2, detF_one d (by unfold Abs at xd; omega) (by unfold Abs at xd; omega), detF_one b (by unfold Abs at xb; omega) (by unfold Abs at xb; omega), detF_one c (by unfold Abs at xc; omega) (by unfold Abs at xc; omega),
            detF_one a (by unfold Abs at xa; omega) (by unfold Abs at xa; omega), xb.neg.wrap (by omega), xc.neg.wrap (by omega)]
          rfl
        rw [e1, hdv, e]
        generalize hD : D2 a b c d = D at *
        have xD : Abs 1 D := by unfold Abs; omega
        rw [(xd.mul xD).wrap (by omega), (xb.neg.mul xD).wrap (by omega), (xc.neg.mul xD).wrap (by omega), (xa.mul xD).wrap (by omega), times2]
        have hDD : D * D = 1 := by rcases hd with rfl | rfl <;> rfl
        unfold D2 at hD
        have e00 : d * D * a + -c * D * b = 1 := by grind
        have e01 : -b * D * a + a * D * b = 0 := by grind
        have e10 : d * D * c + -c * D * d = 0 := by grind
        have e11 : -b * D * c + a * D * d = 1 := by grind
        rw [e00, e01, e10, e11]
        simp [wrap64, unitL, List.range_succ]
      · rw [hn] at hs
        obtain ⟨a, b, c, d, e, f, g, h, i, rfl⟩ := hs.three
        refine ⟨?_, by rw [hn]; decide⟩
        have xa : Abs 100 a := hr [a, b, c] (by simp) a (by simp)
        have xb : Abs 100 b := hr [a, b, c] (by simp) b (by simp)
        have xc : Abs 100 c := hr [a, b, c] (by simp) c (by simp)
        have xd : Abs 100 d := hr [d, e, f] (by simp) d (by simp)
        have xe : Abs 100 e := hr [d, e, f] (by simp) e (by simp)
        have xf : Abs 100 f := hr [d, e, f] (by simp) f (by simp)
        have xg : Abs 100 g := hr [g, h, i] (by simp) g (by simp)
        have xh : Abs 100 h := hr [g, h, i] (by simp) h (by simp)
        have xi : Abs 100 i := hr [g, h, i] (by simp) i (by simp)
        have h1 : Abs 6000000 (D3 a b c d e f g h i) := ((xa.mul ((xe.mul xi).sub (xf.mul xh))).sub (xb.mul ((xd.mul xi).sub (xf.mul xg)))).add (xc.mul ((xd.mul xh).sub (xe.mul xg)))
        have ed : detS [[a, b, c], [d, e, f], [g, h, i]] = D3 a b c d e f g h i := by rw [detS_three]; exact h1.wrap (by omega)
        rw [hdv, ed] at hd
        have d2 : ∀ {k l m n : Int}, Abs 100 k → Abs 100 l → Abs 100 m → Abs 100 n → detF 2 [[k, l], [m, n]] = D2 k l m n ∧ Abs 20000 (D2 k l m n) := fun h1 h2 h3 h4 =>
          ⟨by rw [detF_two]; exact ((h1.mul h4).sub (h2.mul h3)).wrap (by omega), (h1.mul h4).sub (h2.mul h3)⟩
        obtain ⟨q1, p1⟩ := d2 xe xf xh xi
        obtain ⟨q2, p2⟩ := d2 xb xc xh xi
        obtain ⟨q3, p3⟩ := d2 xb xc xe xf
        obtain ⟨q4, p4⟩ := d2 xd xf xg xi
        obtain ⟨q5, p5⟩ := d2 xa xc xg xi
        obtain ⟨q6, p6⟩ := d2 xa xc xd xf
        obtain ⟨q7, p7⟩ := d2 xd xe xg xh
        obtain ⟨q8, p8⟩ := d2 xa xb xg xh
        obtain ⟨q9, p9⟩ := d2 xa xb xd xe
        have e1 : invW [[a, b, c], [d, e, f], [g, h, i]] =
            [[wrap64 (D2 e f h i * detV [[a, b, c], [d, e, f], [g, h, i]]), wrap64 (-D2 b c h i * detV [[a, b, c], [d, e, f], [g, h, i]]), wrap64 (D2 b c e f * detV [[a, b, c], [d, e, f], [g, h, i]])],
             [wrap64 (-D2 d f g i * detV [[a, b, c], [d, e, f], [g, h, i]]), wrap64 (D2 a c g i * detV [[a, b, c], [d, e, f], [g, h, i]]), wrap64 (-D2 a c d f * detV [[a, b, c], [d, e, f], [g, h, i]])],
             [wrap64 (D2 d e g h * detV [[a, b, c], [d, e, f], [g, h, i]]), wrap64 (-D2 a b g h * detV [[a, b, c], [d, e, f], [g, h, i]]), wrap64 (D2 a b d e * detV [[a, b, c], [d, e, f], [g, h, i]])]] := by
          unfold invW
          rw [show [[a, b, c], [d, e, f], [g, h, i]].length = 3 from rfl, madj3, q1, q2, q3, q4, q5, q6, q7, q8, q9, p2.neg.wrap (by omega), p4.neg.wrap (by omega), p6.neg.wrap (by omega), p8.neg.wrap (by omega)]
          rfl
        rw [e1, hdv, ed]
        generalize hD : D3 a b c d e f g h i = D at *
        have xD : Abs 1 D := by unfold Abs; omega
        rw [(p1.mul xD).wrap (by omega), (p2.neg.mul xD).wrap (by omega), (p3.mul xD).wrap (by omega), (p4.neg.mul xD).wrap (by omega), (p5.mul xD).wrap (by omega), (p6.neg.mul xD).wrap (by omega), (p7.mul xD).wrap (by omega), (p8.neg.mul xD).wrap (by omega), (p9.mul xD).wrap (by omega), times3]
        have hDD : D * D = 1 := by rcases hd with rfl | rfl <;> rfl
        clear hd xD q1 q2 q3 q4 q5 q6 q7 q8 q9 p1 p2 p3 p4 p5 p6 p7 p8 p9 h1 ed e1 d2 xa xb xc xd xe xf xg xh xi hdv hr hs hm hmi ei hi hu hn
        unfold D3 at hD
        unfold D2
        have e00 : (e * i - f * h) * D * a + -(d * i - f * g) * D * b + (d * h - e * g) * D * c = 1 := by grind
        have e01 : -(b * i - c * h) * D * a + (a * i - c * g) * D * b + -(a * h - b * g) * D * c = 0 := by grind
        have e02 : (b * f - c * e) * D * a + -(a * f - c * d) * D * b + (a * e - b * d) * D * c = 0 := by grind
        have e10 : (e * i - f * h) * D * d + -(d * i - f * g) * D * e + (d * h - e * g) * D * f = 0 := by grind
        have e11 : -(b * i - c * h) * D * d + (a * i - c * g) * D * e + -(a * h - b * g) * D * f = 1 := by grind
        have e12 : (b * f - c * e) * D * d + -(a * f - c * d) * D * e + (a * e - b * d) * D * f = 0 := by grind
        have e20 : (e * i - f * h) * D * g + -(d * i - f * g) * D * h + (d * h - e * g) * D * i = 0 := by grind
        have e21 : -(b * i - c * h) * D * g + (a * i - c * g) * D * h + -(a * h - b * g) * D * i = 0 := by grind
        have e22 : (b * f - c * e) * D * g + -(a * f - c * d) * D * h + (a * e - b * d) * D * i = 1 := by grind
        rw [e00, e01, e02, e10, e11, e12, e20, e21, e22]
        simp [wrap64, unitL, List.range_succ]
    refine ⟨?_, h1, h3⟩
    unfold timesV
    rw [← ei, if_pos ⟨hm, hmi, by rw [invW_length]⟩, key.1, matIf_yes key.2]
  · cases hi

end Go.Proofs.Ytdchckljggjaaaa
