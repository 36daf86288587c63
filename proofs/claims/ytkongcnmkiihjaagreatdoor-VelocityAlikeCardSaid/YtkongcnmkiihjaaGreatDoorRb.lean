/-
Contracts and plain reckonings behind the law VelocityAlike, part 2 of 8 (each under the conditions in its statement).
-/
import Derived.Laws.Strings
import Derived.OpenShut
import Derived.ChangeSlices
import Derived.Test.YtkongcnmkiihjaaGreatDoorRa
import Derived.Test.YtkongcnmkiihjaaGreatDoorAf
import Derived.Test.YtkongcnmkiihjaaGreatDoorAg
namespace Go.Ab
open Go Ieee
theorem cmp_lt {a b:Int}:(some (compare a b) == some Ordering.lt)=decide (a < b):=by
 rw [show (compare a b)=compareOfLessAndEq a b from rfl]
 unfold compareOfLessAndEq
 by_cases h:a < b
 · rw [if_pos h]; simp [h]
 · rw [if_neg h]
   by_cases h':a=b
   · rw [if_pos h']; simp [h]
   · rw [if_neg h']; simp [h]
theorem cmp_eq {a b:Int}:(some (compare a b) == some Ordering.eq)=decide (a=b):=by
 rw [show (compare a b)=compareOfLessAndEq a b from rfl]
 unfold compareOfLessAndEq
 by_cases h:a < b
 · rw [if_pos h]; simp; omega
 · rw [if_neg h]
   by_cases h':a=b
   · rw [if_pos h']; simp [h']
   · rw [if_neg h']; simp [h']
theorem cmp_gt {a b:Int}:(some (compare a b) == some Ordering.gt)=decide (b < a):=by
 rw [show (compare a b)=compareOfLessAndEq a b from rfl]
 unfold compareOfLessAndEq
 by_cases h:a < b
 · rw [if_pos h]; simp; omega
 · rw [if_neg h]
   by_cases h':a=b
   · rw [if_pos h']; simp [h']
   · rw [if_neg h']; simp; omega
theorem cmp_le {a b:Int}:(some (compare a b) == some Ordering.lt || some (compare a b) == some Ordering.eq)=decide (a ≤ b):=by
 rw [cmp_lt,cmp_eq]
 by_cases h:a < b
 · simp [h]; omega
 · by_cases h':a=b
   · simp [h']
   · simp [h,h']; omega
theorem ord32 {a b:Nat} (ha:fin32 a=true) (hb:fin32 b=true):single.order a b=some (compare (val32 a) (val32 b)):=by
 obtain ⟨s,m,e,h1,_,h3,h4⟩:=fin_form ha
 obtain ⟨t,n,j,k1,_,k3,k4⟩:=fin_form hb
 unfold Format.order
 rw [h1,k1,h4,k4,order_val (by omega) (by omega)]
theorem read0:single.read 0 = .number false 0 (-149):=by rw [read32]; decide
theorem fin0:fin32 0=true ∧ val32 0=0:=by
 unfold fin32 val32
 rw [read0]
 refine ⟨rfl,?_⟩
 show ((mv2 0 (-149):Nat):Int)=0
 rw [show mv2 0 (-149)=0 from Nat.zero_mul _]
 rfl
theorem sub_self {b:Nat} (h:fin32 b=true):single.sub b b=some 0:=by
 obtain ⟨s,m,e,h1,_,_,_⟩:=fin_form h
 unfold Format.sub
 rw [h1]
 have:(Datum.number s m e).sum (Datum.number s m e).opposite=some (.number false 0 e):=by
   unfold Datum.opposite Datum.sum
   simp only [Int.min_self,Int.sub_self]
   have h0:signed s m (0:Int).toNat + signed (!s) m (0:Int).toNat=0:=by
     unfold signed
     cases s
     · simp; omega
     · simp; omega
   rw [h0]
   cases s <;> rfl
 rw [this,Option.map_some]
 rfl
theorem sub_none {b:Nat} (h:fin32 b=false):single.sub b b=none:=by
 unfold fin32 at h
 unfold Format.sub
 split at h
 · cases h
 · rename_i hn
   rcases hr:single.read b with ⟨s,m,e⟩ | s | ⟨s,t⟩
   · exact absurd hr (hn _ _ _)
   · cases s <;> rfl
   · rfl
theorem quot16 {s:Bool} {m:Nat} {e:Int}:(Datum.number s m e).quotient 25 (.number false (2 ^ 23) (-19))=some (.number s (2 * (m <<< (48 - m.log2) / 2 ^ 23) + (m <<< (48 - m.log2) % 2 ^ 23 != 0).toNat) (e - -19 - (48 - m.log2:Nat) - 1)):=by
 have h0:(2 ^ 23:Nat).log2=23:=by rw [Nat.log2_two_pow]
 have h1:(Datum.number s m e).quotient 25 (.number false (2 ^ 23) (-19))=if (2 ^ 23:Nat)=0 then (if m=0 then none else some (.infinity (s ^^ false))) else some (.number (s ^^ false) (2 * (m <<< (25 + (2 ^ 23:Nat).log2 - m.log2) / 2 ^ 23) + (m <<< (25 + (2 ^ 23:Nat).log2 - m.log2) % 2 ^ 23 != 0).toNat) (e - -19 - (25 + (2 ^ 23:Nat).log2 - m.log2:Nat) - 1)):=rfl
 rw [h1,if_neg (by decide),h0,show 25 + 23=48 from rfl,Bool.xor_false]
theorem div16 {n:Int} (hn:n.natAbs < 2 ^ 24):∃ r,single.div (FloatKind.f32.nearest n) 1098907648=some r ∧ fin32 r=true ∧ 16 * val32 r=n * UV:=by
 obtain ⟨f1,f2⟩:=nearest_val hn
 obtain ⟨s,m,e,h1,h2,h3,h4⟩:=fin_form f1
 obtain ⟨q,hq⟩:∃ q,FloatKind.f32.nearest n=q:=⟨_,rfl⟩
 rw [hq] at h1 f1 f2 h4 ⊢
 have hv:mv2 m e=n.natAbs * UV:=by
   rw [← sv2_abs (s:=s),← h4,f2,Int.natAbs_mul]
   rfl
 have h8:(8388608:Nat)=2 ^ 23:=by decide
 have he:m ≠ 0 → -24 < e:=fun hm=>by
   have h0:n.natAbs ≠ 0:=fun h0=>by
     rw [h0,Nat.zero_mul] at hv
     unfold mv2 at hv
     rcases Nat.mul_eq_zero.1 hv with h | h
     · exact hm h
     · have:=Nat.two_pow_pos (e + 1200).toNat
       omega
   have h5:UV ≤ mv2 m e:=by
     rw [hv]
     exact Nat.le_mul_of_pos_left _ (by omega)
   unfold mv2 UV at h5
   have h6:2 ^ 1200 < 2 ^ (24 + (e + 1200).toNat):=by
     rw [Nat.pow_add 2 24]
     exact Nat.lt_of_le_of_lt h5 (Nat.mul_lt_mul_of_pos_right h2 (Nat.two_pow_pos _))
   have:=(Nat.pow_lt_pow_iff_right (by decide:1 < 2)).1 h6
   omega
 have hlog:m.log2 ≤ 23:=by
   by_cases hm:m=0
   · subst hm; decide
   · have:=log2_lt h2 hm; omega
 obtain ⟨k,hk⟩:∃ k,48 - m.log2=k + 23:=⟨25 - m.log2,by omega⟩
 have hmag:2 * (m <<< (48 - m.log2) / 2 ^ 23) + (m <<< (48 - m.log2) % 2 ^ 23 != 0).toNat=m * 2 ^ (k + 1):=by
   rw [hk,Nat.shiftLeft_eq,Nat.pow_add,← Nat.mul_assoc,Nat.mul_div_cancel _ (Nat.two_pow_pos _),Nat.mul_mod_left,Nat.pow_succ]
   simp only [bne_self_eq_false,Bool.toNat_false,Nat.add_zero]
   rw [Nat.mul_comm 2,Nat.mul_assoc]
 obtain ⟨k2,l2,w1,w2,w3⟩:=write_small (f:=single) (.inl rfl) s (mag:=m * 2 ^ (k + 1)) (place:=e - -19 - (48 - m.log2:Nat) - 1) (by omega) (fun hm=>by
   have hm0:m ≠ 0:=fun h=>hm (by rw [h,Nat.zero_mul])
   rw [log2_mul hm0]
   have h5:=log2_of_mv2 (e:=e) (k:=24) (by omega) hm0 (by rw [hv]; exact Nat.mul_le_mul_right _ (Nat.le_of_lt hn))
   push_cast
   omega) (fun hm=>by
   have hm0:m ≠ 0:=fun h=>hm (by rw [h,Nat.zero_mul])
   rw [log2_mul hm0]
   refine pow_dvd ?_ m
   have e1:single.fractionBits=23:=rfl
   have e2:single.leastPlace = -149:=rfl
   have:=he hm0
   rw [e1,e2]
   push_cast
   omega)
 have hval:16 * mv2 k2 l2=mv2 m e:=by
   rw [w3]
   by_cases hm0:m=0
   · subst hm0; simp [mv2]
   have:=he hm0
   unfold mv2
   rw [Nat.mul_assoc,← Nat.pow_add,Nat.mul_comm 16,Nat.mul_assoc,show (16:Nat)=2 ^ 4 by decide,← Nat.pow_add]
   congr 2
   omega
 have hw:single.write (.number s (m * 2 ^ (k + 1)) (e - -19 - (48 - m.log2:Nat) - 1))=single.nearest s (m * 2 ^ (k + 1)) (e - -19 - (48 - m.log2:Nat) - 1):=rfl
 obtain ⟨r,hr⟩:∃ r,single.nearest s (m * 2 ^ (k + 1)) (e - -19 - (48 - m.log2:Nat) - 1)=r:=⟨_,rfl⟩
 rw [hr] at w1 hw
 refine ⟨r,?_,?_,?_⟩
 · unfold Format.div
   rw [h1,read16,h8,show single.fractionBits + 2=25 from rfl,quot16,hmag,Option.map_some,hw]
 · unfold fin32
   rw [w1]
 · have h9:val32 r=sv2 s k2 l2:=by
     unfold val32
     rw [w1]
   rw [h9,← f2,h4]
   unfold sv2
   cases s
   · simp only [Bool.false_eq_true,if_false]
     omega
   · simp only [if_true]
     omega
def val64 (b:Nat):Int:=match double.read b with
 | .number s m e=>sv2 s m e
 | _=>0
def fin64 (b:Nat):Bool:=match double.read b with
 | .number ..=>true
 | _=>false
theorem fin64_form {b:Nat} (h:fin64 b=true):∃ s m e,double.read b = .number s m e ∧ m < 2 ^ 53 ∧ -1074 ≤ e ∧ val64 b=sv2 s m e:=by
 unfold fin64 at h
 unfold val64
 rw [read64] at h ⊢
 have hm:=Nat.mod_lt (b % 2 ^ 63) (y:=2 ^ 52) (by decide)
 by_cases c1:b % 2 ^ 63 < 2 ^ 52
 · rw [if_pos c1]
   exact ⟨_,_,_,rfl,by omega,by omega,rfl⟩
 rw [if_neg c1] at h ⊢
 by_cases c2:b % 2 ^ 63 < 0x7ff0000000000000
 · rw [if_pos c2]
   exact ⟨_,_,_,rfl,by omega,by omega,rfl⟩
 rw [if_neg c2] at h
 by_cases c3:b % 2 ^ 63=0x7ff0000000000000
 · rw [if_pos c3] at h
   cases h
 · rw [if_neg c3] at h
   cases h
theorem fin64_of {r:Nat} {s:Bool} {m:Nat} {e:Int} (h:double.read r = .number s m e):fin64 r=true ∧ val64 r=sv2 s m e:=by
 unfold fin64 val64
 rw [h]
 exact ⟨rfl,rfl⟩
theorem ord64 {a b:Nat} (ha:fin64 a=true) (hb:fin64 b=true):double.order a b=some (compare (val64 a) (val64 b)):=by
 obtain ⟨s,m,e,h1,_,h3,h4⟩:=fin64_form ha
 obtain ⟨t,n,j,k1,_,k3,k4⟩:=fin64_form hb
 unfold Format.order
 rw [h1,k1,h4,k4,order_val (by omega) (by omega)]
theorem wide {b:Nat} (h:fin32 b=true):∃ s m e,single.read b = .number s m e ∧ fin64 (double.write (.number s m e))=true ∧ val64 (double.write (.number s m e))=val32 b:=by
 obtain ⟨s,m,e,h1,h2,h3,h4⟩:=fin_form h
 refine ⟨s,m,e,h1,?_⟩
 by_cases hbig:e ≤ 104
 · obtain ⟨k,l,w1,w2,w3⟩:∃ k l,double.read (double.nearest s m e) = .number s k l ∧ double.leastPlace ≤ l ∧ mv2 k l=mv2 m e:=by
     refine write_val double s (last:=max (e + m.log2 - double.fractionBits) double.leastPlace) (by omega) (by decide) rfl ?_ fun hm=>?_
     · by_cases hm:m=0
       · subst hm; exact Nat.dvd_zero _
       have:=log2_lt h2 hm
       have e0:(max (e + (m.log2:Int) - double.fractionBits) double.leastPlace - e).toNat=0:=by
         have e1:double.fractionBits=52:=rfl
         have e2:double.leastPlace = -1074:=rfl
         rw [e1,e2]
         push_cast
         omega
       rw [e0]
       exact Nat.one_dvd _
     · have hlog:=log2_lt h2 hm
       have e1:double.fractionBits=52:=rfl
       have e2:double.leastPlace = -1074:=rfl
       have e0:(max (e + (m.log2:Int) - double.fractionBits) double.leastPlace - e).toNat=0:=by
         rw [e1,e2]
         push_cast
         omega
       have hk:=kept_lt (f:=double) (mag:=m) (place:=e) rfl (by rw [e0]; exact Nat.one_dvd _)
       obtain ⟨last,hl⟩:∃ l,max (e + (m.log2:Int) - double.fractionBits) double.leastPlace=l:=⟨_,rfl⟩
       rw [hl] at hk ⊢
       have hle:(last - double.leastPlace).toNat + 2 ≤ 2 ^ double.exponentBits - 1:=by
         have e3:2 ^ double.exponentBits - 1=2047:=by decide
         rw [e3]
         rw [e1,e2] at hl
         rw [e2]
         push_cast at hl
         omega
       unfold Format.infRung
       calc (last - double.leastPlace).toNat * double.binade + m * 2 ^ (e - last).toNat / 2 ^ (last - e).toNat < (last - double.leastPlace).toNat * double.binade + 2 * double.binade:=by omega
         _=((last - double.leastPlace).toNat + 2) * double.binade:=by rw [Nat.add_mul]
         _ ≤ _:=Nat.mul_le_mul_right _ hle
   have hw:double.write (.number s m e)=double.nearest s m e:=rfl
   rw [hw]
   obtain ⟨q1,q2⟩:=fin64_of w1
   refine ⟨q1,?_⟩
   rw [q2,h4]
   unfold sv2
   rw [w3]
 · exfalso
   rw [read32] at h1
   by_cases c1:b % 2 ^ 31 < 2 ^ 23
   · rw [if_pos c1] at h1
     injection h1 with a1 a2 a3
     omega
   rw [if_neg c1] at h1
   by_cases c2:b % 2 ^ 31 < 0x7f800000
   · rw [if_pos c2] at h1
     injection h1 with a1 a2 a3
     omega
   · rw [if_neg c2] at h1
     by_cases c3:b % 2 ^ 31=0x7f800000
     · rw [if_pos c3] at h1
       cases h1
     · rw [if_neg c3] at h1
       cases h1
theorem read64_16:double.read 4625196817309499392 = .number false 4503599627370496 (-48):=by rw [read64]; decide
theorem prod64_16 {s:Bool} {m:Nat} {e:Int}:(Datum.number false 4503599627370496 (-48)).product (.number s m e)=some (.number s (m * 4503599627370496) (e + -48)):=by
 show some (Datum.number (false ^^ s) (4503599627370496 * m) (-48 + e))=_
 rw [Bool.false_xor,Nat.mul_comm,Int.add_comm]
theorem mul64_val {s:Bool} {m:Nat} {e:Int} (h2:m < 2 ^ 53) (h3:-1074 ≤ e) (hs:mv2 m e ≤ 2 ^ 10 * UV):∃ k l,double.read (double.nearest s (m * 4503599627370496) (e + -48)) = .number s k l ∧ mv2 k l=16 * mv2 m e:=by
 have h8:(4503599627370496:Nat)=2 ^ 52:=by decide
 obtain ⟨k,l,w1,w2,w3⟩:=write_small (f:=double) (.inr rfl) s (mag:=m * 4503599627370496) (place:=e + -48) (by omega) (fun hm=>by
   have hm0:m ≠ 0:=fun h=>hm (by rw [h,Nat.zero_mul])
   rw [h8,log2_mul hm0]
   have:=log2_of_mv2 (e:=e) (k:=10) (by omega) hm0 hs
   push_cast
   omega) (fun hm=>by
   have hm0:m ≠ 0:=fun h=>hm (by rw [h,Nat.zero_mul])
   rw [h8,log2_mul hm0]
   have:=log2_lt h2 hm0
   refine pow_dvd ?_ m
   have e1:double.fractionBits=52:=rfl
   have e2:double.leastPlace = -1074:=rfl
   rw [e1,e2]
   push_cast
   omega)
 refine ⟨k,l,w1,?_⟩
 rw [w3,h8]
 unfold mv2
 rw [Nat.mul_assoc,← Nat.pow_add,show 52 + (e + -48 + 1200).toNat=4 + (e + 1200).toNat by omega,Nat.pow_add,← Nat.mul_assoc,Nat.mul_comm m,Nat.mul_assoc,show (2:Nat) ^ 4=16 by decide]
theorem mul64 {b:Nat} (hf:fin64 b=true) (hs:(val64 b).natAbs ≤ 2 ^ 10 * UV):∃ r,double.mul 4625196817309499392 b=some r ∧ fin64 r=true ∧ val64 r=16 * val64 b:=by
 obtain ⟨s,m,e,h1,h2,h3,h4⟩:=fin64_form hf
 rw [h4,sv2_abs] at hs
 obtain ⟨k,l,w1,w2⟩:=mul64_val (s:=s) h2 h3 hs
 have hw:double.write (.number s (m * 4503599627370496) (e + -48))=double.nearest s (m * 4503599627370496) (e + -48):=rfl
 obtain ⟨r,hr⟩:∃ r,double.nearest s (m * 4503599627370496) (e + -48)=r:=⟨_,rfl⟩
 rw [hr] at w1 hw
 obtain ⟨q1,q2⟩:=fin64_of w1
 refine ⟨r,?_,q1,?_⟩
 · unfold Format.mul
   rw [read64_16,h1,prod64_16,Option.map_some,hw]
 · rw [q2,h4]
   exact sv2_16 w2
theorem floor64 {b:Nat} (hf:fin64 b=true) (hs:(val64 b).natAbs ≤ 2 ^ 14 * UV):∃ s m e,double.read b = .number s m e ∧ ∃ r,double.write ((Datum.number s m e).integral .down)=r ∧ fin64 r=true ∧ (val64 r=val64 b ↔ UV ∣ (val64 b).natAbs):=by
 obtain ⟨s,m,e,h1,h2,h3,h4⟩:=fin64_form hf
 rw [h4,sv2_abs] at hs
 refine ⟨s,m,e,h1,?_⟩
 obtain ⟨c,hc⟩:∃ c,Toward.cut .down s (m <<< e.toNat) (-e).toNat=c:=⟨_,rfl⟩
 have hi:(Datum.number s m e).integral .down = .number s c 0:=by
   show Datum.number s (Toward.cut .down s (m <<< e.toNat) (-e).toNat) 0=_
   rw [hc]
 have hw:double.write (.number s c 0)=double.nearest s c 0:=rfl
 rw [hi,hw]
 have hq:=whole_mv (k:=m) (l:=e) (by omega)
 /- the cut is the whole part, or one more -/
 have hz:Toward.cut .zero s (m <<< e.toNat) (-e).toNat ≤ c ∧ c ≤ Toward.cut .zero s (m <<< e.toNat) (-e).toNat + 1:=by
   rw [← hc]
   unfold Toward.cut
   simp only [Bool.toNat_false,Nat.add_zero]
   have:∀ x:Bool,x.toNat ≤ 1:=by decide
   exact ⟨Nat.le_add_right _ _,Nat.add_le_add_left (this _) _⟩
 rw [cut_zero,hq] at hz
 have hdiv:mv2 m e / UV ≤ 2 ^ 14:=by
   calc mv2 m e / UV ≤ 2 ^ 14 * UV / UV:=Nat.div_le_div_right hs
     _=2 ^ 14:=Nat.mul_div_cancel _ UV_pos
 obtain ⟨k,l,n1,n2,n3⟩:=near_val (f:=double) (.inr rfl) s (n:=c) (by omega)
 obtain ⟨r,hr⟩:∃ r,double.nearest s c 0=r:=⟨_,rfl⟩
 rw [hr] at n1 ⊢
 obtain ⟨q1,q2⟩:=fin64_of n1
 refine ⟨r,rfl,q1,?_⟩
 rw [q2,h4,sv2_abs]
 have hinj:sv2 s k l=sv2 s m e ↔ mv2 k l=mv2 m e:=by
   unfold sv2
   generalize mv2 k l=x
   generalize mv2 m e=y
   cases s
   · simp only [Bool.false_eq_true,if_false]
     omega
   · simp only [if_true]
     omega
 rw [hinj,n3]
 constructor
 · intro h
   rw [← h]
   exact Nat.dvd_mul_left _ _
 · intro h
   by_cases hm:m=0
   · subst hm
     have h0:c=0:=by
       rw [← hc]
       unfold Toward.cut
       simp
     rw [h0]
     simp [mv2]
   have hd:2 ^ (-e).toNat ∣ m <<< e.toNat:=by
     unfold mv2 UV at h
     rw [Nat.shiftLeft_eq]
     by_cases he:0 ≤ e
     · rw [show (-e).toNat=0 by omega]
       exact Nat.one_dvd _
     · rw [show e.toNat=0 by omega,Nat.pow_zero,Nat.mul_one]
       obtain ⟨D,hD⟩:∃ D,(-e).toNat=D:=⟨_,rfl⟩
       obtain ⟨A,hA⟩:∃ A,(e + 1200).toNat=A:=⟨_,rfl⟩
       rw [hA,show (1200:Nat)=D + A by omega,Nat.pow_add] at h
       rw [hD]
       exact Nat.dvd_of_mul_dvd_mul_right (Nat.two_pow_pos _) h
   have hne:m <<< e.toNat ≠ 0:=by
     rw [Nat.shiftLeft_eq]
     exact Nat.mul_ne_zero hm (Nat.pos_iff_ne_zero.1 (Nat.two_pow_pos _))
   have hc2:=cut_exact (way:=.down) (s:=s) hne hd
   rw [hc,hq] at hc2
   rw [hc2,Nat.div_mul_cancel h]
def good32 (b:Nat):Bool:=fin32 b && decide ((val32 b).natAbs ≤ 2 ^ 10 * UV) && decide (UV ∣ (16 * val32 b).natAbs)
def six32 (b:Nat):Int:=(16 * val32 b).tdiv UV
def err32 (b:Nat):Int:=if fin32 b then (if good32 b then 0 else 3) else 1
theorem good_six {b:Nat} (h:good32 b=true):16 * val32 b=six32 b * UV ∧ (six32 b).natAbs ≤ 16384:=by
 unfold good32 at h
 simp only [Bool.and_eq_true,decide_eq_true_eq] at h
 obtain ⟨⟨h1,h2⟩,h3⟩:=h
 have hd:(UV:Int) ∣ 16 * val32 b:=Int.natAbs_dvd_natAbs.1 (by simpa using h3)
 have h4:six32 b * UV=16 * val32 b:=Int.tdiv_mul_cancel hd
 refine ⟨h4.symm,?_⟩
 have h5:(six32 b).natAbs * UV ≤ 16384 * UV:=by
   have:(six32 b).natAbs * UV=16 * (val32 b).natAbs:=by
     rw [show (six32 b).natAbs * UV=(six32 b * UV).natAbs by rw [Int.natAbs_mul,Int.natAbs_natCast],h4,Int.natAbs_mul]
     rfl
   rw [this]
   have:(2:Nat) ^ 10=1024:=rfl
   rw [this] at h2
   calc 16 * (val32 b).natAbs ≤ 16 * (1024 * UV):=Nat.mul_le_mul_left _ h2
     _=16384 * UV:=by rw [← Nat.mul_assoc]
 exact Nat.le_of_mul_le_mul_right h5 UV_pos
section
variable {P:Program} {t:TypeId} {x y:Operand} {H:Heap} {n:Nat} {k:FloatKind} {a b r:Nat}
theorem bin_fmul (h:k.format.mul a b=some r):binV P .mul t x y (.float k a) (.float k b) H n=some (.float k r,H,n):=by
 have:runP P (do eqGuard .mul t x y (.float k a) (.float k b); binOp .mul t (.float k a) (.float k b))=some (.float k r):=by
   cases k
   · show runP P (match FloatKind.f32.format.mul a b with | some r=>pure (Value.float .f32 r) | none=>do pure (Value.float .f32 (← choose (.nanBits .f32 a b))))=_
     rw [h]; rfl
   · show runP P (match FloatKind.f64.format.mul a b with | some r=>pure (Value.float .f64 r) | none=>do pure (Value.float .f64 (← choose (.nanBits .f64 a b))))=_
     rw [h]; rfl
 simp [binV,this]
theorem bin_fsub (h:k.format.sub a b=some r):binV P .sub t x y (.float k a) (.float k b) H n=some (.float k r,H,n):=by
 have:runP P (do eqGuard .sub t x y (.float k a) (.float k b); binOp .sub t (.float k a) (.float k b))=some (.float k r):=by
   cases k
   · show runP P (match FloatKind.f32.format.sub a b with | some r=>pure (Value.float .f32 r) | none=>do pure (Value.float .f32 (← choose (.nanBits .f32 a b))))=_
     rw [h]; rfl
   · show runP P (match FloatKind.f64.format.sub a b with | some r=>pure (Value.float .f64 r) | none=>do pure (Value.float .f64 (← choose (.nanBits .f64 a b))))=_
     rw [h]; rfl
 simp [binV,this]
theorem bin_fdiv (h:k.format.div a b=some r):binV P .quo t x y (.float k a) (.float k b) H n=some (.float k r,H,n):=by
 have:runP P (do eqGuard .quo t x y (.float k a) (.float k b); binOp .quo t (.float k a) (.float k b))=some (.float k r):=by
   cases k
   · show runP P (match FloatKind.f32.format.div a b with | some r=>pure (Value.float .f32 r) | none=>do pure (Value.float .f32 (← choose (.nanBits .f32 a b))))=_
     rw [h]; rfl
   · show runP P (match FloatKind.f64.format.div a b with | some r=>pure (Value.float .f64 r) | none=>do pure (Value.float .f64 (← choose (.nanBits .f64 a b))))=_
     rw [h]; rfl
 simp [binV,this]
theorem bin_feql:binV P .eql t x y (.float k a) (.float k b) H n=some (.bool (k.format.order a b == some .eq),H,n):=by cases k <;> rfl
theorem bin_fneql:binV P .neq t x y (.float k a) (.float k b) H n=some (.bool (k.format.order a b != some .eq),H,n):=by cases k <;> rfl
theorem bin_fgtr:binV P .gtr t x y (.float k a) (.float k b) H n=some (.bool (k.format.order a b == some .gt),H,n):=by cases k <;> rfl
theorem bin_flss:binV P .lss t x y (.float k a) (.float k b) H n=some (.bool (k.format.order a b == some .lt),H,n):=by cases k <;> rfl
theorem bin_fleq:binV P .leq t x y (.float k a) (.float k b) H n=some (.bool (k.format.order a b == some .lt || k.format.order a b == some .eq),H,n):=by cases k <;> rfl
theorem sub_open (h:k.format.sub a b=none):RunQ P (do eqGuard .sub t x y (.float k a) (.float k b); binOp .sub t (.float k a) (.float k b)) fun v=>∃ q,v = .float k q ∧ nanB k q:=fun w=>by
 have e:(do eqGuard .sub t x y (.float k a) (.float k b); binOp .sub t (.float k a) (.float k b):Sem Value)=(do pure (Value.float k (← choose (.nanBits k a b)))):=by
   cases k
   · show (match FloatKind.f32.format.sub a b with | some r=>pure (Value.float .f32 r) | none=>do pure (Value.float .f32 (← choose (.nanBits .f32 a b))))=_
     rw [h]
   · show (match FloatKind.f64.format.sub a b with | some r=>pure (Value.float .f64 r) | none=>do pure (Value.float .f64 (← choose (.nanBits .f64 a b))))=_
     rw [h]
 rw [e]
 refine ⟨_,w.drawn + 1,?_,_,rfl,cut_nan k a b (w.tape w.drawn (.nanBits k a b))⟩
 simp [Question.forced]
end
section
variable {P:Program} {r:Rec} {m:Nat}
theorem EN.opn {n0 : Nat} {ro : Option Nat} {st st1 : St} {K : Ex → St → Prop} (hr : RecOk P r m) (i : Nat) {id : Nat} {ops : Array Oper} {o : Oper} {s : Sem Value} {Q : Value → Prop}
   (ho:ops.toList[i]? = some o) (hpre:opsF P r ops (ops.toList.take i) st=some st1) (hg:o.guard=none) (hd:dstOk st1.sz o.dst=true) (hop:OpenOp P st1.fr o.op s) (hq:RunQ P s Q) (haf:∀ v,Q v → af v=true)
   (hpost:∀ v,Q v → ∃ st2,opsF P r ops (ops.toList.drop (i + 1)) { st1 with fr:=putA st1.fr o.dst v } = some st2 ∧ K .normal st2):EN P n0 ro (.region id ops false) st K:=by
 intro p φ M w0 hgl hp hl a w φ1 hS hs
 refine wpIn_region ?_
 have hi:i < ops.size:=by
   have:=(List.getElem?_eq_some_iff.1 ho).1
   simpa using this
 have h0:ops[i]? = some o:=by rw [← Array.getElem?_toList]; exact ho
 have:=opsF_pre hr φ ro (ops:=ops) (Q:=fun e2 a' w'=>∃ e st',K e st' ∧ Post P p φ n0 M w0 e st' e2 a' w') i 0 st _ φ1 a w st1 (by omega) (by simpa using hpre) hS fun φ2 a2 w2 hS2 hs2=>?_
 · simpa using this
 rw [Nat.zero_add,List.drop_eq_getElem_cons (by simpa using hi),List.getElem_range,wpOpsIn_cons]
 unfold wpOpIn
 rw [h0]
 simp only
 have hw:Region.wanted o (yielded ops a2.tmps)=true:=by simp [Region.wanted,hg]
 rw [hw]
 simp only [if_true]
 refine ⟨fun f _=>fence_fn _ _ f,?_⟩
 rw [Oper.semAt_eq _ _ _ (not_call hop)]
 obtain ⟨v,d,hrun,hv⟩:=open_run hS2.base hop hq
 rw [hrun,Oper.uponIn_value]
 obtain ⟨st2,h2,hk⟩:=hpost v hv
 have hst:=Step.drawn (n:=st1.n) hS2.base.rel d
 have hav:=haf v hv
 have hS3:=hS2.put (o:=o) hd (v:=v) (n':=st1.n) (H':=st1.H) ⟨hS2.base.sm.mono fun _ h=>.inl h,sc_af _ _ hav,hst⟩
 rw [den_af φ2 _ hav] at hS3
 have hfin:=opsF_ok hr φ ro (ops:=ops) (Q:=fun e2 a' w'=>∃ e st',K e st' ∧ Post P p φ n0 M w0 e st' e2 a' w') (ops.size - (i + 1)) _ _ φ2 _ _ st2 (by omega) (by rw [show ops.size - (ops.size - (i + 1))=i + 1 by omega]; exact h2) hS3 fun φ3 a3 w3 hS4 hs4=>by
   have hs':=(hs.trans hs2).trans (hst.trans hs4)
   have hS5:SRel P (Nx p n0 st2.n) φ3 st2 a3 w3:=hS4.mono (fun k hk=>?_) (fun k hk=>Nx.lt hp hs'.le hk)
   · exact ⟨.normal,st2,hk,rfl,φ3,hS5,hs'⟩
   · have e1:=hs.le
     have e2:=hs2.le
     have e4:st1.n ≤ st2.n:=hs4.le
     rcases hk with ((hk | hk) | hk) | hk
     · rcases hk with hk | hk
       · exact .inl hk
       · exact .inr ⟨hk.1,by omega⟩
     · exact .inr ⟨by omega,by omega⟩
     · exact .inr ⟨by have:=hk.1; omega,by have:=hk.2; omega⟩
     · have h1:=hk.1
       have h2:=hk.2
       dsimp only at h1 h2
       exact .inr ⟨by omega,by omega⟩
 rw [show ops.size - (ops.size - (i + 1))=i + 1 by omega] at hfin
 exact hfin
end
theorem nan_ord {k:FloatKind} {b c:Nat} (h:nanB k b):k.format.order b c=none:=by
 obtain ⟨s,f,e⟩:=read_nan h
 unfold Format.order
 rw [e]
 rfl
end Go.Ab
namespace Go.Proofs.YtkongcnmkiihjaaGreatDoor.Gn
section
open Go Go.Ab Go.Proofs Ieee
theorem w212 (b:Bool) (e:Int):AC Tryz.prog 212 [.bool b,.int .i64 e] [] 10 (.int .i64 (whenV b e)) [] 10:=by
 have hr:=recT_ok (P:=Tryz.prog) (l:=[]) (by simp)
 refine AC.pure Tryz.func212 rfl (by kernel_rfl) rfl [] rfl ?_
 refine E.seq (E.reg hr (by simp [argsFr,Tryz.f212]; rfl) ?_)
 refine E.seq (E.seq (E.reg hr (by simp; rfl) ?_))
 refine E.cond (by rfl) (fun h=>?_) (fun h=>?_)
 · try simp at h
   refine E.seq (E.reg hr (by simp; rfl) ?_)
   refine E.ret ?_
   exact pureK.ret rfl rfl (by simp [one,whenV,h]) (sub_refl _)
 · try simp at h
   refine E.skip (E.seq (E.reg hr (by simp; rfl) ?_))
   refine E.ret ?_
   exact pureK.ret rfl rfl (by simp [one,whenV,h]) (sub_refl _)
theorem ok212:EntOk Tryz.prog (212,g114):=by
 intro args H n v H' n' h
 simp only [g114] at h
 split at h
 · rename_i b e
   injection h with h; injection h with e1 e2; injection e2 with e2 e3; subst e1 e2 e3
   exact AC.liftP rfl (Part.plainN (by simp) [] (by simp [Seen]) gszN ⟨_,_,w212 b e⟩)
 · cases h
theorem w211 (l:List Int) (o c:Nat) (hl:l.length < 2 ^ 31):AC Tryz.prog 211 [.slice (some ⟨10,o,none⟩) l.length c] [(10,.inp o (l.map iv))] 11 (iv (firstV l)) [(10,.inp o (l.map iv))] 11:=by
 have hr:=recT_ok (P:=Tryz.prog) (l:=[]) (by simp)
 refine AC.pure Tryz.func211 rfl (by kernel_rfl) rfl [5,6,7] rfl ?_
 refine E.seq (E.reg hr (by simp [argsFr,Tryz.f211]; rfl) ?_)
 refine E.seq (E.seq (E.reg hr (by simp [opBuiltin,builtinA]; rfl) ?_))
 refine E.block (E.loop ?_)
 refine EL.ind (fun i:Nat=>{ fr:=[(5,.slice (some ⟨10,o,none⟩) l.length c),(6,iv l.length),(7,iv i)],sz:=15,H:=[(10,.inp o (l.map iv))],n:=11,marks:=[],vs:=[5,6,7] }) (fun i=>l.length - i) (fun i=>i ≤ l.length ∧ firstV (l.drop i)=firstV l) 0 (.less rfl rfl rfl (by simp) (by simp)) ⟨Nat.zero_le _,rfl⟩ (fun _=>rfl) ?_
 intro i ⟨hi,hg⟩
 refine E.seq (E.reg hr (by simp; rfl) ?_)
 refine E.seq ?_
 refine E.cond (by rfl) (fun h=>?_) (fun h=>?_)
 · simp at h
   refine E.skip (E.seq ?_)
   refine E.block (E.seq (E.reg hr (by simp [opIndexaddr,Tryz.underlying170,flat,h,loadA,cellA]; rfl) ?_))
   refine E.seq (E.reg hr (by simp; rfl) ?_)
   refine E.cond (by rfl) (fun h2=>?_) (fun h2=>?_)
   · simp at h2
     refine E.seq (E.reg hr (by simp; rfl) ?_)
     refine E.ret ?_
     refine pureK.ret rfl rfl ?_ (sub_refl _)
     rw [List.drop_eq_getElem_cons h] at hg
     simp [one,← hg,firstV,h2]
   · simp at h2
     refine E.skip ?_
     have hw:IntKind.i64.wrap ((i:Int) + 1)=(i:Int) + 1:=W_in (by omega) (by omega)
     refine E.reg hr (by simp [hw]; rfl) ?_
     rw [List.drop_eq_getElem_cons h] at hg
     exact ⟨i + 1,.less rfl rfl rfl (by simp) (by simp),⟨h,by rw [← hg]; simp [firstV,h2]⟩,by dsimp only; omega⟩
 · simp at h
   refine E.exit ?_
   refine E.seq (E.reg hr (by simp; rfl) ?_)
   refine E.ret ?_
   have:l.drop i=[]:=by simp; omega
   refine pureK.ret rfl rfl ?_ (sub_refl _)
   simp [one,← hg,this,firstV]
theorem ok211:EntOk Tryz.prog (211,g113):=by
 intro args H n v H' n' h
 simp only [g113] at h
 split at h
 · rename_i a len c
   rw [Option.map_eq_some_iff] at h
   obtain ⟨l,h1,h⟩:=h
   injection h with e1 e2; injection e2 with e2 e3; subst e1 e2 e3
   obtain ⟨hf,hc,hlen,hlt⟩:=intsAt_ok h1
   subst hlen
   exact AC.liftP rfl (Part.oneN (fun s=>[s]) (by intro φ φ0 s s0 h; simp [denL,h]) (by intro p s h; exact ⟨h,trivial⟩) hf hc (afL_iv l) [] (by simp [Seen]) gszN fun c=>⟨_,_,w211 l _ c hlt⟩)
 · cases h
theorem c1024:FloatKind.f32.nearest 1024=1149239296:=by decide +kernel
theorem n1024:runP Tryz.prog (Op.unary .neg (.float .f32 1149239296))=some (.float .f32 3296722944):=by kernel_rfl
theorem v1024:fin32 1149239296=true ∧ val32 1149239296=(2 ^ 10 * UV:Nat):=by
 have h:single.read 1149239296 = .number false 8388608 (-13):=by rw [read32]; decide
 unfold fin32 val32
 rw [h]
 refine ⟨rfl,?_⟩
 show ((mv2 8388608 (-13):Nat):Int)=_
 rw [show (8388608:Nat)=2 ^ 23 from rfl,mv2_two (k:=10) (by decide)]
theorem v1024n:fin32 3296722944=true ∧ val32 3296722944 = -((2 ^ 10 * UV:Nat):Int):=by
 have h:single.read 3296722944 = .number true 8388608 (-13):=by rw [read32]; decide
 unfold fin32 val32
 rw [h]
 refine ⟨rfl,?_⟩
 show -((mv2 8388608 (-13):Nat):Int)=_
 rw [show (8388608:Nat)=2 ^ 23 from rfl,mv2_two (k:=10) (by decide)]
theorem cvFI0 (b:Nat):runP Tryz.prog (convert 145 3 (.float .f32 b))=runP Tryz.prog (Conv.floatToInt .f32 b .i64):=by kernel_rfl
theorem cvFI {b:Nat} (h:fin32 b=true) (hr:-1000000 ≤ (val32 b).tdiv UV ∧ (val32 b).tdiv UV ≤ 1000000):runP Tryz.prog (convert 145 3 (.float .f32 b))=some (iv ((val32 b).tdiv UV)):=by
 rw [cvFI0]
 unfold Conv.floatToInt
 have:=toInt_val h
 have e:(FloatKind.f32.decode b).toInt .zero=some ((val32 b).tdiv UV):=this
 rw [e]
 simp only
 rw [if_pos ⟨by have : IntKind.i64.min = -9223372036854775808 := by decide
                omega, by have : IntKind.i64.max = 9223372036854775807 := by decide
                          omega⟩]
 rfl
theorem h00:(FloatKind.f32.format.order 0 0 == some Ordering.eq)=true:=by decide +kernel
theorem w274 (b:Nat):AC Tryz.prog 274 [.float .f32 b] [] 10 (.bool (fin32 b)) [] 10:=by
 have hr:=recT_ok (P:=Tryz.prog) (l:=[]) (by simp)
 refine AC.pure Tryz.func274 rfl (by kernel_rfl) rfl [] rfl ?_
 refine E.seq (E.reg hr (by simp; rfl) ?_)
 refine E.seq ?_
 cases h:fin32 b with
 | true=>
   refine E.reg hr (by simp [bin_fsub (k:=.f32) (sub_self h),bin_feql,h00]; rfl) ?_
   refine E.ret ?_
   exact pureK.ret rfl rfl (by simp) (sub_refl _)
 | false=>
   apply E.opn (Q:=fun v=>∃ q,v = .float .f32 q ∧ nanB .f32 q) (st0:={ fr:=[(2,.bool false)],sz:=7,H:=[],n:=10,marks:=[],vs:=[] }) (hr:=hr) (i:=2)
   case ho=>rfl
   case hpre=>simp [opsF_cons,opsF_nil,oneF_plain]; rfl
   case hg=>rfl
   case hd=>rfl
   case hop=>exact .bin (by simp; rfl) (by simp; rfl) rfl rfl
   case hq=>exact sub_open (k:=.f32) (a:=b) (b:=b) (sub_none h)
   case haf=>
     rintro v ⟨q,rfl,_⟩
     rfl
   case hpost=>
     rintro v ⟨q,rfl,hq⟩
     have ho:FloatKind.f32.format.order q 0=none:=nan_ord hq
     refine ⟨_,by simp [opsF_cons,opsF_nil,oneF_plain,bin_feql,ho]; rfl,?_⟩
     exact .keep rfl rfl rfl (by simp) (Sub.refl _)
   refine E.ret ?_
   exact pureK.ret rfl rfl (by simp) (sub_refl _)
theorem fin_none {b:Nat} (h:fin32 b=false):(∃ s f,single.read b = .nan s f) ∨ ∃ s,single.read b = .infinity s:=by
 unfold fin32 at h
 split at h
 · cases h
 · rename_i hn
   rcases hr:single.read b with ⟨s,m,e⟩ | s | ⟨s,t⟩
   · exact absurd hr (hn _ _ _)
   · exact .inr ⟨s,rfl⟩
   · exact .inl ⟨s,t,rfl⟩
theorem r1024:single.read 1149239296 = .number false 8388608 (-13):=by rw [read32]; decide
theorem r1024n:single.read 3296722944 = .number true 8388608 (-13):=by rw [read32]; decide
theorem le_low {b:Nat} (h:fin32 b=true):(FloatKind.f32.format.order 3296722944 b == some Ordering.lt || FloatKind.f32.format.order 3296722944 b == some Ordering.eq)=decide (-((2 ^ 10 * UV:Nat):Int) ≤ val32 b):=by
 have:FloatKind.f32.format.order 3296722944 b=some (compare (val32 3296722944) (val32 b)):=ord32 v1024n.1 h
 rw [this,v1024n.2,cmp_le]
theorem le_high {b:Nat} (h:fin32 b=true):(FloatKind.f32.format.order b 1149239296 == some Ordering.lt || FloatKind.f32.format.order b 1149239296 == some Ordering.eq)=decide (val32 b ≤ ((2 ^ 10 * UV:Nat):Int)):=by
 have:FloatKind.f32.format.order b 1149239296=some (compare (val32 b) (val32 1149239296)):=ord32 h v1024.1
 rw [this,v1024.2,cmp_le]
theorem six_bound {b:Nat} (hs:(val32 b).natAbs ≤ 2 ^ 10 * UV):-16384 ≤ six32 b ∧ six32 b ≤ 16384:=by
 have h1:(six32 b).natAbs ≤ 16384:=by
   unfold six32
   rw [Int.natAbs_tdiv,Int.natAbs_mul]
   obtain ⟨U,hU⟩:∃ U,UV=U:=⟨_,rfl⟩
   have hp:0 < U:=by rw [← hU]; exact UV_pos
   rw [hU] at hs ⊢
   rw [show (16:Int).natAbs=16 from rfl,Int.natAbs_natCast]
   have h2:16 * (val32 b).natAbs ≤ 16384 * U:=by
     have:(2:Nat) ^ 10=1024:=rfl
     rw [this] at hs
     omega
   calc 16 * (val32 b).natAbs / U ≤ 16384 * U / U:=Nat.div_le_div_right h2
     _=16384:=Nat.mul_div_cancel _ hp
 omega
theorem six_run {b:Nat} (h:fin32 b=true) (hs:(val32 b).natAbs ≤ 2 ^ 10 * UV):∃ r,single.mul b 1098907648=some r ∧ single.mul 1098907648 b=some r ∧ runP Tryz.prog (convert 145 3 (.float .f32 r))=some (iv (six32 b)) ∧ (FloatKind.f32.format.order (FloatKind.f32.nearest (six32 b)) r == some Ordering.eq)=decide (UV ∣ (16 * val32 b).natAbs):=by
 obtain ⟨r,m1,m2,m3,m4⟩:=mul16 h hs
 have hb:=six_bound hs
 have e6:(val32 r).tdiv UV=six32 b:=by rw [m4]; rfl
 refine ⟨r,m1,m2,?_,?_⟩
 · rw [← e6]
   exact cvFI m3 (by rw [e6]; omega)
 · obtain ⟨n1,n2⟩:=nearest_val (n:=six32 b) (by omega)
   have:FloatKind.f32.format.order (FloatKind.f32.nearest (six32 b)) r=some (compare (val32 (FloatKind.f32.nearest (six32 b))) (val32 r)):=ord32 n1 m3
   rw [this,n2,m4,cmp_eq]
   refine decide_eq_decide.2 ⟨fun e=>?_,fun e=>?_⟩
   · rw [← e,Int.natAbs_mul,Int.natAbs_natCast]
     exact Nat.dvd_mul_left _ _
   · have hd:(UV:Int) ∣ 16 * val32 b:=Int.natAbs_dvd_natAbs.1 (by simpa using e)
     exact Int.tdiv_mul_cancel hd
theorem good_false {b:Nat} (h:¬ (val32 b).natAbs ≤ 2 ^ 10 * UV):good32 b=false:=by
 unfold good32
 rw [decide_eq_false h]
 simp
theorem w275 (b:Nat):AC Tryz.prog 275 [.float .f32 b,iv 1024] [] 10 (.bool (good32 b)) [] 10:=by
 have hr:=recT_ok (P:=Tryz.prog) (l:=[]) (by simp)
 refine AC.pure Tryz.func275 rfl (by kernel_rfl) rfl [] rfl ?_
 refine E.seq (E.reg hr (by simp; rfl) ?_)
 refine E.seq ?_
 cases h:fin32 b with
 | false=>
   have hg:good32 b=false:=by unfold good32; rw [h]; rfl
   rcases fin_none h with ⟨s,f,e⟩ | ⟨s,e⟩
   · have o1:FloatKind.f32.format.order 3296722944 b=none:=by
       show (single.read 3296722944).order (single.read b)=none
       rw [r1024n,e]; rfl
     refine E.reg hr (by simp [opConvert,c1024,n1024,bin_fleq,o1,yieldedA,undefV]; rfl) ?_
     refine E.ret ?_
     exact pureK.ret rfl rfl (by simp [hg]) (sub_refl _)
   · cases s with
     | true=>
       have o1:FloatKind.f32.format.order 3296722944 b=some .gt:=by
         show (single.read 3296722944).order (single.read b)=_
         rw [r1024n,e]; rfl
       refine E.reg hr (by simp [opConvert,c1024,n1024,bin_fleq,o1,yieldedA,undefV]; rfl) ?_
       refine E.ret ?_
       exact pureK.ret rfl rfl (by simp [hg]) (sub_refl _)
     | false=>
       have o1:FloatKind.f32.format.order 3296722944 b=some .lt:=by
         show (single.read 3296722944).order (single.read b)=_
         rw [r1024n,e]; rfl
       have o2:FloatKind.f32.format.order b 1149239296=some .gt:=by
         show (single.read b).order (single.read 1149239296)=_
         rw [r1024,e]; rfl
       refine E.reg hr (by simp [opConvert,c1024,n1024,bin_fleq,o1,o2,yieldedA,undefV]; rfl) ?_
       refine E.ret ?_
       exact pureK.ret rfl rfl (by simp [hg]) (sub_refl _)
 | true=>
   have q1:=le_low h
   have q2:=le_high h
   obtain ⟨U,hU⟩:∃ U:Nat,2 ^ 10 * UV=U:=⟨_,rfl⟩
   rw [hU] at q1 q2
   by_cases a1:-(U:Int) ≤ val32 b
   case neg=>
     have hg:good32 b=false:=good_false (by rw [hU]; omega)
     rw [decide_eq_false a1] at q1
     refine E.reg hr (by simp [-Bool.or_eq_false_iff,opConvert,c1024,n1024,bin_fleq,q1,yieldedA,undefV]; rfl) ?_
     refine E.ret ?_
     exact pureK.ret rfl rfl (by simp [hg]) (sub_refl _)
   rw [decide_eq_true a1] at q1
   by_cases a2:val32 b ≤ (U:Int)
   case neg=>
     have hg:good32 b=false:=good_false (by rw [hU]; omega)
     rw [decide_eq_false a2] at q2
     refine E.reg hr (by simp [-Bool.or_eq_false_iff,-Bool.or_eq_true,opConvert,c1024,n1024,bin_fleq,q1,q2,yieldedA,undefV]; rfl) ?_
     refine E.ret ?_
     exact pureK.ret rfl rfl (by simp [hg]) (sub_refl _)
   rw [decide_eq_true a2] at q2
   have hs:(val32 b).natAbs ≤ 2 ^ 10 * UV:=by rw [hU]; omega
   obtain ⟨r,m1,_,m3,m4⟩:=six_run h hs
   have hg:good32 b=decide (UV ∣ (16 * val32 b).natAbs):=by
     unfold good32
     rw [h,decide_eq_true hs]
     rfl
   rw [← hg] at m4
   refine E.reg hr (by simp [-Bool.or_eq_false_iff,-Bool.or_eq_true,opConvert,c1024,n1024,bin_fleq,bin_feql,bin_fmul (k:=.f32) m1,m3,m4,q1,q2,yieldedA]; rfl) ?_
   refine E.ret ?_
   exact pureK.ret rfl rfl (by simp) (sub_refl _)
def gFl (F:Nat → Value) (args:List Value) (H:Heap) (n:Nat):R:=match args with
 | [.float .f32 b]=>some (F b,H,n)
 | _=>none
theorem okFl {f:FuncId} {F:Nat → Value} (hF:∀ b,af (F b)=true) (h:∀ b,AC Tryz.prog f [.float .f32 b] [] 10 (F b) [] 10):EntOk Tryz.prog (f,gFl F):=by
 intro args H n v H' n' h'
 simp only [gFl] at h'
 split at h'
 · injection h' with h'; injection h' with e1 e2; injection e2 with e2 e3; subst e1 e2 e3
   exact AC.liftP (hF _) (Part.plainN (by simp) [] (by simp [Seen]) gszN ⟨_,_,h _⟩)
 · cases h'
theorem ok274:EntOk Tryz.prog (274,gFl fun b=>.bool (fin32 b)):=okFl (fun _=>rfl) w274
def g275 (args:List Value) (H:Heap) (n:Nat):R:=match args with
 | [.float .f32 b,.int .i64 m]=>if m=1024 then some (.bool (good32 b),H,n) else none
 | _=>none
theorem ok275:EntOk Tryz.prog (275,g275):=by
 intro args H n v H' n' h'
 simp only [g275] at h'
 split at h'
 · split at h'
   · rename_i hm
     subst hm
     injection h' with h'; injection h' with e1 e2; injection e2 with e2 e3; subst e1 e2 e3
     exact AC.liftP rfl (Part.plainN (by simp) [] (by simp [Seen]) gszN ⟨_,_,w275 _⟩)
   · cases h'
 · cases h'
theorem w268 (b:Nat):AC Tryz.prog 268 [.float .f32 b] [] 10 (iv (err32 b)) [] 10:=by
 have hr:=recT_ok (P:=Tryz.prog) (l:=[(274,gFl fun b=>.bool (fin32 b)),(212,g114),(275,g275),(211,g113)]) (by simp only [List.forall_mem_cons]; exact ⟨ok274,ok212,ok275,ok211,by simp⟩)
 refine AC.pure Tryz.func268 rfl (by kernel_rfl) rfl [] rfl ?_
 refine E.seq (E.reg hr (by simp; rfl) ?_)
 refine E.seq (E.reg hr (by simp [gFl,g275,g113,g114,intsAt,intsOf]; rfl) ?_)
 refine E.ret ?_
 refine pureK.ret rfl rfl ?_ (by repeat first | exact sub_refl _ | refine sub_cons rfl ?_)
 unfold err32
 cases h:fin32 b <;> cases h2:good32 b <;> simp [whenV,firstV]
theorem ok268:EntOk Tryz.prog (268,gFl fun b=>iv (err32 b)):=okFl (fun _=>rfl) w268
def gFd (F:Nat → Value) (args:List Value) (H:Heap) (n:Nat):R:=match args with
 | [.float .f64 b]=>some (F b,H,n)
 | _=>none
theorem okFd {f:FuncId} {F:Nat → Value} (hF:∀ b,af (F b)=true) (h:∀ b,AC Tryz.prog f [.float .f64 b] [] 10 (F b) [] 10):EntOk Tryz.prog (f,gFd F):=by
 intro args H n v H' n' h'
 simp only [gFd] at h'
 split at h'
 · injection h' with h'; injection h' with e1 e2; injection e2 with e2 e3; subst e1 e2 e3
   exact AC.liftP (hF _) (Part.plainN (by simp) [] (by simp [Seen]) gszN ⟨_,_,h _⟩)
 · cases h'
theorem w257 (b:Nat):AC Tryz.prog 257 [.float .f64 b] [] 10 (.bool (double.order b b != some .eq)) [] 10:=by
 have hr:=recT_ok (P:=Tryz.prog) (l:=[]) (by simp)
 refine AC.pure Tryz.func257 rfl (by kernel_rfl) rfl [] rfl ?_
 refine E.seq (E.reg hr (by simp; rfl) ?_)
 refine E.seq (E.reg hr (by simp [bin_fneql]; rfl) ?_)
 refine E.ret ?_
 exact pureK.ret rfl rfl rfl (sub_refl _)
theorem ok257:EntOk Tryz.prog (257,gFd fun b=>.bool (double.order b b != some .eq)):=okFd (fun _=>rfl) w257
theorem ex291 (b:Nat) (H:Heap) (n:Nat):externF Tryz.prog 277 [.float .f64 b] H n=some (.int .u64 b,H,n):=by kernel_rfl
theorem ex290 (b:Nat) (H:Heap) (n:Nat):externF Tryz.prog 276 [.int .u64 (b:Int)] H n=some (.float .f64 b,H,n):=by kernel_rfl
def g277 (args:List Value) (H:Heap) (n:Nat):R:=match args with
 | [.float .f64 b]=>some (.int .u64 b,H,n)
 | _=>none
theorem ok277:EntOk Tryz.prog (277,g277):=by
 intro args H n v H' n' h
 simp only [g277] at h
 split at h
 · injection h with h; injection h with e1 e2; injection e2 with e2 e3; subst e1 e2 e3
   exact externF_ok (ex291 _ _ _)
 · cases h
def g276 (args:List Value) (H:Heap) (n:Nat):R:=match args with
 | [.int .u64 a]=>if 0 ≤ a then some (.float .f64 a.toNat,H,n) else none
 | _=>none
theorem ok276:EntOk Tryz.prog (276,g276):=by
 intro args H n v H' n' h
 simp only [g276] at h
 split at h
 · rename_i a
   split at h
   · rename_i ha
     injection h with h; injection h with e1 e2; injection e2 with e2 e3; subst e1 e2 e3
     obtain ⟨m,rfl⟩:∃ m:Nat,a=m:=⟨a.toNat,by omega⟩
     exact externF_ok (ex290 _ _ _)
   · cases h
 · cases h
theorem not_top {b:Nat} (h:b < 2 ^ 64):(BitVec.ofInt 64 (b:Int) &&& ~~~ BitVec.ofInt 64 9223372036854775808).toNat=b % 2 ^ 63:=by
 have e1:(BitVec.ofInt 64 (b:Int)).toNat=b:=by
   rw [BitVec.toNat_ofInt]
   omega
 have e2:(~~~ BitVec.ofInt 64 9223372036854775808).toNat=2 ^ 63 - 1:=by decide
 rw [BitVec.toNat_and,e1,e2,Nat.and_two_pow_sub_one_eq_mod]
theorem andNot_run {b:Nat} (h:b < 2 ^ 64) {t:TypeId} {x y:Operand} {H:Heap} {n:Nat}:binV Tryz.prog .andNot t x y (.int .u64 b) (.int .u64 9223372036854775808) H n=some (.int .u64 ((b % 2 ^ 63:Nat):Int),H,n):=by
 have:runP Tryz.prog (do eqGuard .andNot t x y (.int .u64 b) (.int .u64 9223372036854775808); binOp .andNot t (.int .u64 b) (.int .u64 9223372036854775808))=some (.int .u64 (IntKind.u64.wrap (BitVec.ofInt 64 (b:Int) &&& ~~~ BitVec.ofInt 64 9223372036854775808).toNat)):=rfl
 rw [not_top h] at this
 have hw:IntKind.u64.wrap ((b % 2 ^ 63:Nat):Int)=((b % 2 ^ 63:Nat):Int):=by
   unfold IntKind.wrap
   simp [IntKind.signed,IntKind.bits]
   omega
 rw [hw] at this
 simp only [binV,afq_af,af_int,Bool.and_self,if_true,this,Option.bind_some]
theorem w269 (b:Nat) (h:b < 2 ^ 64):AC Tryz.prog 269 [.float .f64 b] [] 10 (.float .f64 (b % 2 ^ 63)) [] 10:=by
 have hr:=recT_ok (P:=Tryz.prog) (l:=[(277,g277),(276,g276)]) (by simp [ok277,ok276])
 refine AC.pure Tryz.func269 rfl (by kernel_rfl) rfl [] rfl ?_
 refine E.seq (E.reg hr (by simp; rfl) ?_)
 refine E.seq ?_
 obtain ⟨c,hc⟩:∃ c,b % 2 ^ 63=c:=⟨_,rfl⟩
 have ha:=fun t x y H n=>andNot_run h (t:=t) (x:=x) (y:=y) (H:=H) (n:=n)
 rw [hc] at ha ⊢
 have hc0:(0:Int) ≤ c:=by omega
 refine E.reg hr (by simp [g277,g276,ha]; rfl) ?_
 refine E.ret ?_
 exact pureK.ret rfl rfl (by simp) (sub_refl _)
def g269 (args:List Value) (H:Heap) (n:Nat):R:=match args with
 | [.float .f64 b]=>if b < 2 ^ 64 then some (.float .f64 (b % 2 ^ 63),H,n) else none
 | _=>none
theorem ok269:EntOk Tryz.prog (269,g269):=by
 intro args H n v H' n' h
 simp only [g269] at h
 split at h
 · split at h
   · rename_i hb
     injection h with h; injection h with e1 e2; injection e2 with e2 e3; subst e1 e2 e3
     exact AC.liftP rfl (Part.plainN (by simp) [] (by simp [Seen]) gszN ⟨_,_,w269 _ hb⟩)
   · cases h
 · cases h
def isInf (b:Nat):Bool:=double.order (b % 2 ^ 63) 9218868437227405311 == some .gt
theorem w258 (b:Nat) (h:b < 2 ^ 64):AC Tryz.prog 258 [.float .f64 b,iv 0] [] 10 (.bool (isInf b)) [] 10:=by
 have hr:=recT_ok (P:=Tryz.prog) (l:=[(269,g269)]) (by simp [ok269])
 have h2:∀ H n,g269 [.float .f64 b] H n=some (.float .f64 (b % 2 ^ 63),H,n):=fun H n=>if_pos h
 refine AC.pure Tryz.func258 rfl (by kernel_rfl) rfl [] rfl ?_
 unfold isInf
 obtain ⟨c,hc⟩:∃ c,b % 2 ^ 63=c:=⟨_,rfl⟩
 rw [hc] at h2 ⊢
 refine E.seq (E.reg hr (by simp; rfl) ?_)
 refine E.seq (E.seq (E.reg hr (by simp; rfl) ?_))
 refine E.cond (t:=true) (by simp) (fun _=>?_) (fun h=>by cases h)
 refine E.reg hr (by simp [h2]; rfl) ?_
 refine E.seq (E.reg hr (by simp [bin_fgtr]; rfl) ?_)
 refine E.ret ?_
 exact pureK.ret rfl rfl rfl (sub_refl _)
def g258 (args:List Value) (H:Heap) (n:Nat):R:=match args with
 | [.float .f64 b,.int .i64 z]=>if b < 2 ^ 64 ∧ z=0 then some (.bool (isInf b),H,n) else none
 | _=>none
theorem ok258:EntOk Tryz.prog (258,g258):=by
 intro args H n v H' n' h
 simp only [g258] at h
 split at h
 · split at h
   · rename_i hb
     obtain ⟨hb,rfl⟩:=hb
     injection h with h; injection h with e1 e2; injection e2 with e2 e3; subst e1 e2 e3
     exact AC.liftP rfl (Part.plainN (by simp) [] (by simp [Seen]) gszN ⟨_,_,w258 _ hb⟩)
   · cases h
 · cases h
theorem ex273 {b:Nat} {s:Bool} {m:Nat} {e:Int} (h:double.read b = .number s m e) (H:Heap) (n:Nat):externF Tryz.prog 270 [.float .f64 b] H n=some (.float .f64 (double.write ((Datum.number s m e).integral .down)),H,n):=by
 have e1:externF Tryz.prog 270 [.float .f64 b] H n=match runP Tryz.prog (do let r ← Go.Extern.MathFloor.toIntegral "math.archFloor" .down #[.float .f64 b]; pure (Next.value r)) with
   | some (.value v)=>if af v then some (v,H,n) else none
   | _=>none:=by kernel_rfl
 rw [e1]
 have e2:(Go.Extern.MathFloor.toIntegral "math.archFloor" .down #[.float .f64 b])=pure (.float .f64 (double.write ((Datum.number s m e).integral .down))):=by
   show (match FloatKind.f64.decode b with
     | .nan s t=>if FloatKind.f64.format.quiet t=t then pure (Value.float .f64 b) else do
       let kept ← choose (.extern "math.Floor,Ceil,Trunc,RoundToEven.signallingNaN kept" 2)
       pure (.float .f64 (if kept == 1 then b else FloatKind.f64.encode (.nan s (FloatKind.f64.format.quiet t))))
     | d=>pure (.float .f64 (FloatKind.f64.encode (d.integral .down))))=_
   rw [show FloatKind.f64.decode b = .number s m e from h]
   rfl
 rw [e2]
 rfl
def g270 (args:List Value) (H:Heap) (n:Nat):R:=match args with
 | [.float .f64 b]=>match double.read b with
   | .number s m e=>some (.float .f64 (double.write ((Datum.number s m e).integral .down)),H,n)
   | _=>none
 | _=>none
theorem ok270:EntOk Tryz.prog (270,g270):=by
 intro args H n v H' n' h
 simp only [g270] at h
 split at h
 · split at h
   · rename_i hb
     injection h with h; injection h with e1 e2; injection e2 with e2 e3; subst e1 e2 e3
     exact externF_ok (ex273 hb _ _)
   · cases h
 · cases h
theorem w259 {b:Nat} {s:Bool} {m:Nat} {e:Int} (h:double.read b = .number s m e):AC Tryz.prog 259 [.float .f64 b] [] 10 (.float .f64 (double.write ((Datum.number s m e).integral .down))) [] 10:=by
 have hr:=recT_ok (P:=Tryz.prog) (l:=[(270,g270)]) (by simp [ok270])
 have h2:∀ H n,g270 [.float .f64 b] H n=some (.float .f64 (double.write ((Datum.number s m e).integral .down)),H,n):=fun H n=>by
   simp only [g270]
   rw [h]
 obtain ⟨r,hr2⟩:∃ r,double.write ((Datum.number s m e).integral .down)=r:=⟨_,rfl⟩
 rw [hr2] at h2 ⊢
 refine AC.pure Tryz.func259 rfl (by kernel_rfl) rfl [] rfl ?_
 refine E.seq (E.reg hr (by simp; rfl) ?_)
 refine E.seq ?_
 refine E.cond (t:=true) (by simp) (fun _=>?_) (fun h=>by cases h)
 refine E.seq (E.reg hr (by simp [h2]; rfl) ?_)
 refine E.ret ?_
 exact pureK.ret rfl rfl (by simp) (sub_refl _)
def g259 (args:List Value) (H:Heap) (n:Nat):R:=g270 args H n
theorem ok259:EntOk Tryz.prog (259,g259):=by
 intro args H n v H' n' h
 simp only [g259,g270] at h
 split at h
 · split at h
   · rename_i hb
     injection h with h; injection h with e1 e2; injection e2 with e2 e3; subst e1 e2 e3
     exact AC.liftP rfl (Part.plainN (by simp) [] (by simp [Seen]) gszN ⟨_,_,w259 hb⟩)
   · cases h
 · cases h
theorem fin_top {b:Nat} (h:fin32 b=true):(val32 b).natAbs ≤ 2 ^ 128 * UV:=by
 have key:∀ s m (e:Int),single.read b = .number s m e → m < 2 ^ 24 → e ≤ 104 → (val32 b).natAbs ≤ 2 ^ 128 * UV:=fun s m e he hm hle=>by
   have:val32 b=sv2 s m e:=by unfold val32; rw [he]
   rw [this,sv2_abs]
   unfold mv2 UV
   calc m * 2 ^ (e + 1200).toNat ≤ 2 ^ 24 * 2 ^ 1304:=Nat.mul_le_mul (Nat.le_of_lt hm) (Nat.pow_le_pow_right (by decide) (by omega))
     _=2 ^ (24 + 1304):=(Nat.pow_add ..).symm
     _=2 ^ (128 + 1200):=by rw [show 24 + 1304=128 + 1200 from rfl]
     _=2 ^ 128 * 2 ^ 1200:=Nat.pow_add 2 128 1200
 have hr:=read32 b
 have hm:=Nat.mod_lt (b % 2 ^ 31) (y:=2 ^ 23) (by decide)
 by_cases c1:b % 2 ^ 31 < 2 ^ 23
 · rw [if_pos c1] at hr
   exact key _ _ _ hr (by omega) (by omega)
 rw [if_neg c1] at hr
 by_cases c2:b % 2 ^ 31 < 0x7f800000
 · rw [if_pos c2] at hr
   exact key _ _ _ hr (by omega) (by omega)
 rw [if_neg c2] at hr
 by_cases c3:b % 2 ^ 31=0x7f800000
 · rw [if_pos c3] at hr
   unfold fin32 at h
   rw [hr] at h
   cases h
 · rw [if_neg c3] at hr
   unfold fin32 at h
   rw [hr] at h
   cases h
theorem max64:fin64 9218868437227405311=true ∧ ((2 ^ 128 * UV:Nat):Int) ≤ val64 9218868437227405311:=by
 have h:double.read 9218868437227405311 = .number false 9007199254740991 971:=by rw [read64]; decide
 obtain ⟨q1,q2⟩:=fin64_of h
 refine ⟨q1,?_⟩
 rw [q2]
 show _ ≤ ((mv2 9007199254740991 971:Nat):Int)
 have:2 ^ 128 * UV ≤ mv2 9007199254740991 971:=by
   unfold mv2 UV
   calc 2 ^ 128 * 2 ^ 1200=2 ^ (128 + 1200):=(Nat.pow_add ..).symm
     _ ≤ 2 ^ ((971:Int) + 1200).toNat:=Nat.pow_le_pow_right (by decide) (by decide)
     _ ≤ 9007199254740991 * 2 ^ ((971:Int) + 1200).toNat:=Nat.le_mul_of_pos_left _ (by decide)
 exact Int.ofNat_le.2 this
theorem abs64 {b:Nat} (h:fin64 b=true):fin64 (b % 2 ^ 63)=true ∧ val64 (b % 2 ^ 63)=((val64 b).natAbs:Int):=by
 have key:∀ s m (e:Int),double.read b = .number s m e → double.read (b % 2 ^ 63) = .number false m e → fin64 (b % 2 ^ 63)=true ∧ val64 (b % 2 ^ 63)=((val64 b).natAbs:Int):=fun s m e h1 h2=>by
   obtain ⟨q1,q2⟩:=fin64_of h1
   obtain ⟨q3,q4⟩:=fin64_of h2
   refine ⟨q3,?_⟩
   rw [q4,q2,sv2_abs]
   rfl
 have hr:=read64 b
 have hr2:=read64 (b % 2 ^ 63)
 have e1:b % 2 ^ 63 % 2 ^ 63=b % 2 ^ 63:=Nat.mod_mod ..
 have e2:(b % 2 ^ 63 / 2 ^ 63 % 2 == 1)=false:=by
   rw [Nat.div_eq_of_lt (Nat.mod_lt _ (by decide))]
   rfl
 rw [e1,e2] at hr2
 by_cases c1:b % 2 ^ 63 < 2 ^ 52
 · rw [if_pos c1] at hr hr2
   exact key _ _ _ hr hr2
 rw [if_neg c1] at hr hr2
 by_cases c2:b % 2 ^ 63 < 0x7ff0000000000000
 · rw [if_pos c2] at hr hr2
   exact key _ _ _ hr hr2
 rw [if_neg c2] at hr
 unfold fin64 at h
 by_cases c3:b % 2 ^ 63=0x7ff0000000000000
 · rw [if_pos c3] at hr
   rw [hr] at h
   cases h
 · rw [if_neg c3] at hr
   rw [hr] at h
   cases h
theorem not_inf {r:Nat} (h:fin64 r=true) (hv:(val64 r).natAbs ≤ 2 ^ 128 * UV):isInf r=false:=by
 obtain ⟨h1,h2⟩:=abs64 h
 unfold isInf
 rw [ord64 h1 max64.1,cmp_gt,h2]
 have:=max64.2
 exact decide_eq_false (by omega)
theorem not_nan {r:Nat} (h:fin64 r=true):(double.order r r != some Ordering.eq)=false:=by
 rw [ord64 h h]
 have:(some (compare (val64 r) (val64 r)) == some Ordering.eq)=true:=by rw [cmp_eq]; simp
 simp only [bne,this,Bool.not_true]
theorem d1024:FloatKind.f64.nearest 1024=4652218415073722368:=by decide +kernel
theorem d1024n:FloatKind.f64.nearest (-1024)=13875590451928498176:=by decide +kernel
theorem cv316 (n:Int):runP Tryz.prog (convert 3 315 (.int .i64 n))=some (.float .f64 (FloatKind.f64.nearest n)):=by kernel_rfl
theorem u1024:fin64 4652218415073722368=true ∧ val64 4652218415073722368=(2 ^ 10 * UV:Nat):=by
 have h:double.read 4652218415073722368 = .number false 4503599627370496 (-42):=by rw [read64]; decide
 obtain ⟨q1,q2⟩:=fin64_of h
 refine ⟨q1,?_⟩
 rw [q2]
 show ((mv2 4503599627370496 (-42):Nat):Int)=_
 rw [show (4503599627370496:Nat)=2 ^ 52 from rfl,mv2_two (k:=10) (by decide)]
theorem u1024n:fin64 13875590451928498176=true ∧ val64 13875590451928498176 = -((2 ^ 10 * UV:Nat):Int):=by
 have h:double.read 13875590451928498176 = .number true 4503599627370496 (-42):=by rw [read64]; decide
 obtain ⟨q1,q2⟩:=fin64_of h
 refine ⟨q1,?_⟩
 rw [q2]
 show -((mv2 4503599627370496 (-42):Nat):Int)=_
 rw [show (4503599627370496:Nat)=2 ^ 52 from rfl,mv2_two (k:=10) (by decide)]
theorem cvFF0 (b:Nat):runP Tryz.prog (convert 145 315 (.float .f32 b))=runP Tryz.prog (Conv.floatToFloat .f32 b .f64):=by kernel_rfl
theorem cvFF {b:Nat} (h:fin32 b=true):∃ r,runP Tryz.prog (convert 145 315 (.float .f32 b))=some (.float .f64 r) ∧ fin64 r=true ∧ val64 r=val32 b ∧ r < 2 ^ 64:=by
 obtain ⟨s,m,e,h1,h2,h3⟩:=wide h
 refine ⟨_,?_,h2,h3,?_⟩
 · rw [cvFF0]
   have hd:FloatKind.f32.decode b = .number s m e:=h1
   unfold Conv.floatToFloat
   rw [if_neg (by decide)]
   rw [hd]
   obtain ⟨s2,m2,e2,q1,_⟩:=fin64_form h2
   have hi:(FloatKind.f64.decode (FloatKind.f64.encode (.number s m e))).isInfinity=false:=by
     show (double.read (double.write (.number s m e))).isInfinity=false
     rw [q1]; rfl
   simp only [hi,Bool.false_eq_true,if_false]
   rfl
 · exact double.write_lt _
theorem cvInf {b:Nat} {s:Bool} (h:single.read b = .infinity s):runP Tryz.prog (convert 145 315 (.float .f32 b))=some (.float .f64 (if s then 18442240474082181120 else 9218868437227405312)):=by
 rw [cvFF0]
 have hd:FloatKind.f32.decode b = .infinity s:=h
 unfold Conv.floatToFloat
 rw [if_neg (by decide),hd]
 cases s <;> rfl
theorem cvNan {b:Nat} {s:Bool} {f:Nat} (h:single.read b = .nan s f):RunQ Tryz.prog (convert 145 315 (.float .f32 b)) fun v=>∃ q,v = .float .f64 q ∧ nanB .f64 q:=fun w=>by
 have e0:(convert 145 315 (.float .f32 b)).run Tryz.prog w=(Conv.floatToFloat .f32 b .f64).run Tryz.prog w:=by kernel_rfl
 have hd:FloatKind.f32.decode b = .nan s f:=h
 rw [e0]
 unfold Conv.floatToFloat
 rw [if_neg (by decide),hd]
 refine ⟨_,w.drawn + 1,?_,_,rfl,cut_conv .f64 b (w.tape w.drawn (.nanConv .f64 b))⟩
 simp [Question.forced]
theorem inf_pos:(double.order 9218868437227405312 9218868437227405312 != some Ordering.eq)=false ∧ isInf 9218868437227405312=true:=by decide +kernel
theorem inf_neg:(double.order 18442240474082181120 18442240474082181120 != some Ordering.eq)=false ∧ isInf 18442240474082181120=true:=by decide +kernel
set_option maxRecDepth 20000 in
theorem w240 (b:Nat):AC Tryz.prog 240 [.float .f32 b,iv 1024] [] 10 (iv (err32 b)) [] 10:=by
 have hr:=recT_ok (P:=Tryz.prog) (l:=[(257,gFd fun b=>.bool (double.order b b != some .eq)),(258,g258),(259,g259),(99,g114)]) (by simp only [List.forall_mem_cons]; exact ⟨ok257,ok258,ok259,ok99,by simp⟩)
 have g48:∀ q H m,gFd (fun b=>.bool (double.order b b != some .eq)) [.float .f64 q] H m=some (.bool (double.order q q != some .eq),H,m):=fun _ _ _=>rfl
 refine AC.pure Tryz.func240 rfl (by kernel_rfl) rfl [] rfl ?_
 refine E.seq (E.reg hr (by simp; rfl) ?_)
 cases h:fin32 b with
 | false=>
   have he:err32 b=1:=by unfold err32; rw [h]; rfl
   rcases fin_none h with ⟨s,f,e⟩ | ⟨s,e⟩
   · refine EN.join (e:=.ret) { fr:=[(4,iv 1)],sz:=34,H:=[],n:=10,marks:=[],vs:=[] } (EN.seq ?_) (pureK.ret rfl rfl (by simp [he]) (sub_refl _))
     apply EN.opn (Q:=fun v=>∃ q,v = .float .f64 q ∧ nanB .f64 q) (hr:=hr) (i:=1)
     case ho=>rfl
     case hpre=>simp [opsF_cons,opsF_nil,oneF_plain]; rfl
     case hg=>rfl
     case hd=>rfl
     case hop=>exact .conv (by simp; rfl) rfl
     case hq=>exact cvNan e
     case haf=>
       rintro v ⟨q,rfl,_⟩
       rfl
     case hpost=>
       rintro v ⟨q,rfl,hq⟩
       have ho:(double.order q q != some Ordering.eq)=true:=by
         have:double.order q q=none:=nan_ord (k:=.f64) hq
         rw [this]
         rfl
       refine ⟨_,by simp [opsF_cons,opsF_nil,oneF_plain]; rfl,E.toN ?_⟩
       refine E.seq (E.seq (E.reg hr (by simp [g48,ho,yieldedA,undefV]; rfl) ?_))
       refine E.cond (t:=true) (by simp) (fun _=>?_) (fun h=>by cases h)
       refine E.seq (E.reg hr (by simp; rfl) ?_)
       refine E.ret ?_
       exact ⟨rfl,.keep rfl rfl rfl (by simp) (Sub.refl _)⟩
   · have hc:=cvInf e
     cases s with
     | true=>
       obtain ⟨i1,i2⟩:=inf_neg
       have g9:∀ H m,g258 [.float .f64 18442240474082181120,.int .i64 0] H m=some (.bool true,H,m):=fun H m=>by
         have:g258 [.float .f64 18442240474082181120,.int .i64 0] H m=if (18442240474082181120:Nat) < 2 ^ 64 ∧ (0:Int)=0 then some (.bool (isInf 18442240474082181120),H,m) else none:=rfl
         rw [this,if_pos ⟨by decide,rfl⟩,i2]
       refine E.seq (E.reg hr (by simp [opConvert,hc]; rfl) ?_)
       refine E.seq (E.seq (E.reg hr (by simp [g48,i1,g9,yieldedA]; rfl) ?_))
       refine E.cond (t:=true) (by simp) (fun _=>?_) (fun h=>by cases h)
       refine E.seq (E.reg hr (by simp; rfl) ?_)
       refine E.ret ?_
       exact pureK.ret rfl rfl (by simp [he]) (sub_refl _)
     | false=>
       obtain ⟨i1,i2⟩:=inf_pos
       have g9:∀ H m,g258 [.float .f64 9218868437227405312,.int .i64 0] H m=some (.bool true,H,m):=fun H m=>by
         have:g258 [.float .f64 9218868437227405312,.int .i64 0] H m=if (9218868437227405312:Nat) < 2 ^ 64 ∧ (0:Int)=0 then some (.bool (isInf 9218868437227405312),H,m) else none:=rfl
         rw [this,if_pos ⟨by decide,rfl⟩,i2]
       refine E.seq (E.reg hr (by simp [opConvert,hc]; rfl) ?_)
       refine E.seq (E.seq (E.reg hr (by simp [g48,i1,g9,yieldedA]; rfl) ?_))
       refine E.cond (t:=true) (by simp) (fun _=>?_) (fun h=>by cases h)
       refine E.seq (E.reg hr (by simp; rfl) ?_)
       refine E.ret ?_
       exact pureK.ret rfl rfl (by simp [he]) (sub_refl _)
 | true=>
   obtain ⟨r,c1,c2,c3,c4⟩:=cvFF h
   have ht:=fin_top h
   have i1:=not_nan c2
   have i2:=not_inf c2 (by rw [c3]; exact ht)
   have g9:∀ H m,g258 [.float .f64 r,.int .i64 0] H m=some (.bool false,H,m):=fun H m=>by
     show (if _ then _ else _)=_
     rw [if_pos ⟨c4,rfl⟩,i2]
   refine E.seq (E.reg hr (by simp [opConvert,c1]; rfl) ?_)
   refine E.seq (E.seq (E.reg hr (by simp [g48,i1,g9,yieldedA]; rfl) ?_))
   refine E.cond (t:=false) (by simp) (fun h=>by cases h) (fun _=>?_)
   refine E.skip (E.seq ?_)
   have q1:(FloatKind.f64.format.order r 4652218415073722368 == some Ordering.gt)=decide (((2 ^ 10 * UV:Nat):Int) < val32 b):=by
     have:FloatKind.f64.format.order r 4652218415073722368=some (compare (val64 r) (val64 4652218415073722368)):=ord64 c2 u1024.1
     rw [this,cmp_gt,u1024.2,c3]
   have q2:(FloatKind.f64.format.order r 13875590451928498176 == some Ordering.lt)=decide (val32 b < -((2 ^ 10 * UV:Nat):Int)):=by
     have:FloatKind.f64.format.order r 13875590451928498176=some (compare (val64 r) (val64 13875590451928498176)):=ord64 c2 u1024n.1
     rw [this,cmp_lt,u1024n.2,c3]
   obtain ⟨U,hU⟩:∃ U:Nat,2 ^ 10 * UV=U:=⟨_,rfl⟩
   rw [hU] at q1 q2
   have hwm:IntKind.i64.wrap (-1024) = -1024:=by decide
   by_cases a1:(U:Int) < val32 b
   · have he:err32 b=3:=by unfold err32; rw [h,good_false (by rw [hU]; omega)]; rfl
     rw [decide_eq_true a1] at q1
     refine E.reg hr (by simp [opConvert,cv316,d1024,bin_fgtr,q1,g114,yieldedA,undefV]; rfl) ?_
     refine E.ret ?_
     exact pureK.ret rfl rfl (by simp [he,whenV]) (sub_refl _)
   rw [decide_eq_false a1] at q1
   by_cases a2:val32 b < -(U:Int)
   · have he:err32 b=3:=by unfold err32; rw [h,good_false (by rw [hU]; omega)]; rfl
     rw [decide_eq_true a2] at q2
     refine E.reg hr (by simp [opConvert,cv316,d1024,d1024n,bin_fgtr,bin_flss,q1,q2,hwm,g114,yieldedA,undefV]; rfl) ?_
     refine E.ret ?_
     exact pureK.ret rfl rfl (by simp [he,whenV]) (sub_refl _)
   rw [decide_eq_false a2] at q2
   have hs:(val32 b).natAbs ≤ 2 ^ 10 * UV:=by rw [hU]; omega
   obtain ⟨r2,m1,m2,m3⟩:=mul64 c2 (by rw [c3]; exact hs)
   have hs2:(val64 r2).natAbs ≤ 2 ^ 14 * UV:=by
     rw [m3,c3,Int.natAbs_mul,show (16:Int).natAbs=2 ^ 4 from rfl]
     calc 2 ^ 4 * (val32 b).natAbs ≤ 2 ^ 4 * (2 ^ 10 * UV):=Nat.mul_le_mul_left _ hs
       _=2 ^ 14 * UV:=by rw [← Nat.mul_assoc]
   obtain ⟨s,m,e,e1,fl,e2,e3,e4⟩:=floor64 m2 hs2
   have g5:∀ H k,g259 [.float .f64 r2] H k=some (.float .f64 fl,H,k):=fun H k=>by
     simp only [g259,g270]
     rw [e1]
     simp only
     rw [e2]
   have q3:(FloatKind.f64.format.order r2 fl != some Ordering.eq) = !good32 b:=by
     have ho:FloatKind.f64.format.order r2 fl=some (compare (val64 r2) (val64 fl)):=ord64 m2 e3
     have hg:good32 b=decide (UV ∣ (16 * val32 b).natAbs):=by
       unfold good32
       rw [h,decide_eq_true hs]
       rfl
     rw [ho,hg]
     simp only [bne]
     rw [cmp_eq]
     congr 1
     refine decide_eq_decide.2 ?_
     rw [eq_comm,e4,m3,c3]
   refine E.reg hr (by simp [opConvert,cv316,d1024,d1024n,bin_fgtr,bin_flss,bin_fneql,bin_fmul (k:=.f64) m1,g5,q1,q2,q3,hwm,g114,yieldedA]; rfl) ?_
   refine E.ret ?_
   refine pureK.ret rfl rfl ?_ (sub_refl _)
   unfold err32
   rw [h]
   cases good32 b <;> simp [whenV]
def g240 (args:List Value) (H:Heap) (n:Nat):R:=match args with
 | [.float .f32 b,.int .i64 m]=>if m=1024 then some (iv (err32 b),H,n) else none
 | _=>none
theorem ok240:EntOk Tryz.prog (240,g240):=by
 intro args H n v H' n' h'
 simp only [g240] at h'
 split at h'
 · split at h'
   · rename_i hm
     subst hm
     injection h' with h'; injection h' with e1 e2; injection e2 with e2 e3; subst e1 e2 e3
     exact AC.liftP rfl (Part.plainN (by simp) [] (by simp [Seen]) gszN ⟨_,_,w240 _⟩)
   · cases h'
 · cases h'
theorem w217 (b:Nat):AC Tryz.prog 217 [.float .f32 b] [] 10 (iv (err32 b)) [] 10:=by
 have hr:=recT_ok (P:=Tryz.prog) (l:=[(240,g240)]) (by simp [ok240])
 refine AC.pure Tryz.func217 rfl (by kernel_rfl) rfl [] rfl ?_
 refine E.seq (E.reg hr (by simp; rfl) ?_)
 refine E.seq (E.reg hr (by simp [g240]; rfl) ?_)
 refine E.ret ?_
 exact pureK.ret rfl rfl (by simp) (sub_refl _)
theorem ok217:EntOk Tryz.prog (217,gFl fun b=>iv (err32 b)):=okFl (fun _=>rfl) w217
end
section
open Go Go.Ab Go.Proofs
section
variable {P:Program} {t:TypeId} {x y:Operand} {a b:Int} {H:Heap} {n:Nat}
@[simp] theorem bin_leq8:binV P .leq t x y (.int .u8 a) (.int .u8 b) H n=some (.bool (decide (a ≤ b)),H,n):=rfl
@[simp] theorem bin_neq8:binV P .neq t x y (.int .u8 a) (.int .u8 b) H n=some (.bool (!decide (a=b)),H,n):=rfl
@[simp] theorem bin_leq32:binV P .leq t x y (.int .i32 a) (.int .i32 b) H n=some (.bool (decide (a ≤ b)),H,n):=rfl
@[simp] theorem bin_eql32:binV P .eql t x y (.int .i32 a) (.int .i32 b) H n=some (.bool (decide (a=b)),H,n):=rfl
end
def letterB (b:Int):Bool:=(decide (65 ≤ b) && decide (b ≤ 90)) || (decide (97 ≤ b) && decide (b ≤ 122))
def digitB (b:Int):Bool:=decide (48 ≤ b) && decide (b ≤ 57)
abbrev g8 (F:Int → Bool) (args:List Value) (H:Heap) (n:Nat):R:=match args with | [.int .u8 a]=>some (.bool (F a),H,n) | _=>none
theorem ok8 {f:FuncId} {F:Int → Bool} (h:∀ a,AC Tryz.prog f [.int .u8 a] [] 10 (.bool (F a)) [] 10):EntOk Tryz.prog (f,g8 F):=by
 intro args H n v H' n' h'
 simp only [g8] at h'
 split at h'
 · injection h' with h'; injection h' with e1 e2; injection e2 with e2 e3; subst e1 e2 e3
   exact AC.liftP rfl (Part.plainN (by simp) [] (by simp [Seen]) gszN ⟨_,_,h _⟩)
 · cases h'
theorem w171 (b:Int):AC Tryz.prog 171 [.int .u8 b] [] 10 (.bool (letterB b)) [] 10:=by
 have hr:=recT_ok (P:=Tryz.prog) (l:=[]) (by simp)
 refine AC.pure Tryz.func171 rfl (by kernel_rfl) rfl [] rfl ?_
 refine E.seq (E.reg hr (by simp; rfl) ?_)
 refine E.seq ?_
 by_cases h1:65 ≤ b <;> by_cases h2:b ≤ 90 <;> by_cases h3:97 ≤ b <;> by_cases h4:b ≤ 122 <;>
   (refine E.reg hr (by simp [h1,h2,h3,h4]; rfl) ?_
    refine E.ret ?_
    exact pureK.ret rfl rfl (by simp [letterB,h1,h2,h3,h4]) (sub_refl _))
theorem ok171:EntOk Tryz.prog (171,g8 letterB):=ok8 w171
theorem w172 (b:Int):AC Tryz.prog 172 [.int .u8 b] [] 10 (.bool (digitB b)) [] 10:=by
 have hr:=recT_ok (P:=Tryz.prog) (l:=[]) (by simp)
 refine AC.pure Tryz.func172 rfl (by kernel_rfl) rfl [] rfl ?_
 refine E.seq (E.reg hr (by simp; rfl) ?_)
 refine E.seq ?_
 by_cases h1:48 ≤ b <;> by_cases h2:b ≤ 57 <;>
   (refine E.reg hr (by simp [h1,h2]; rfl) ?_
    refine E.ret ?_
    exact pureK.ret rfl rfl (by simp [digitB,h1,h2]) (sub_refl _))
theorem ok172:EntOk Tryz.prog (172,g8 digitB):=ok8 w172
theorem runP_und {α:Type} {P:Program} {t:TypeId} {d:TypeDesc} {f:TypeDesc → Sem α} (h:P.underlying t=some d):runP P (Sem.bind (underlying t) f)=runP P (f d):=by
 show runP P (Sem.bind (match P.underlying t with | some d=>_ | none=>_) f)=_
 rw [h]
 rfl
theorem runP_bind {α β:Type} {P:Program} (a:Sem α) (g:α → Sem β):runP P (Sem.bind a g)=(runP P a).bind fun x=>runP P (g x):=by
 induction a with
 | program k ih=>exact ih P
 | mark m k ih=>exact ih
 | _=>rfl
@[simp] theorem len_str {s:ByteArray} {o:Bool}:runP Tryz.prog (Go.builtin .len #[9] 3 #[o] #[.string s])=some (.value (iv s.size)):=by
 show runP Tryz.prog (Sem.bind (Sem.bind (underlying 9) _) _)=_
 rw [runP_bind,runP_und Tryz.underlying9]
 rfl
def byteB (s:ByteArray) (i:Nat):Int:=(s.get! i).toNat
theorem index_str {s:ByteArray} {j:Int} (h0:0 ≤ j) (h1:j < s.size):runP Tryz.prog (Instr.index 9 (.string s) (.int .i64 j))=some (.int .u8 (byteB s j.toNat)):=by
 have hlt:j.toNat < s.size:=by omega
 have hb:s[j.toNat]? = some (s.get! j.toNat):=by
   rw [getElem?_pos s j.toNat hlt]
   simp [ByteArray.get!,getElem!_pos,hlt]
   rfl
 have h2:(if 0 ≤ j then s[j.toNat]? else none)=some (s.get! j.toNat):=by rw [if_pos h0,hb]
 show runP Tryz.prog (Sem.bind (underlying 9) _)=_
 rw [runP_und Tryz.underlying9]
 dsimp only [iv]
 rw [h2]
 rfl
theorem decode_low {s:ByteArray} {i:Nat} (h:byteB s i < 128):Utf8.decode s i=((byteB s i).toNat,1):=by
 have:(s.get! (i + 0)).toNat < 128:=by unfold byteB at h; rw [Nat.add_zero]; omega
 unfold Utf8.decode
 simp only
 rw [if_pos this]
 simp [byteB]
theorem decode_high {s:ByteArray} {i:Nat} (h:¬ byteB s i < 128):128 ≤ (Utf8.decode s i).1 ∧ 1 ≤ (Utf8.decode s i).2:=by
 have:¬ (s.get! (i + 0)).toNat < 128:=by unfold byteB at h; rw [Nat.add_zero]; omega
 unfold Utf8.decode
 simp only
 rw [if_neg this]
 repeat' split
 all_goals first | (constructor <;> simp_all <;> omega) | (simp [Utf8.runeError])
def partB (b:Int):Bool:=letterB b || digitB b || decide (b=95)
def okAt (s:ByteArray) (j:Nat):Bool:=if j=0 then letterB (byteB s j) else partB (byteB s j)
def nameB (s:ByteArray):Bool:=decide (s.size ≠ 0) && decide (s.size ≤ 24) && (List.range s.size).all (okAt s)
theorem nameB_true {s:ByteArray} (h0:s.size ≠ 0) (h1:s.size ≤ 24) (h:∀ j,j < s.size → okAt s j=true):nameB s=true:=by
 unfold nameB
 simp [h0,h1]
 exact h
theorem nameB_false {s:ByteArray} {j:Nat} (hj:j < s.size) (h:okAt s j=false):nameB s=false:=by
 unfold nameB
 have:(List.range s.size).all (okAt s)=false:=by
   rw [List.all_eq_false]
   exact ⟨j,by simpa using hj,by simp [h]⟩
 rw [this,Bool.and_false]
set_option maxRecDepth 100000 in
theorem w136 (s:ByteArray):AC Tryz.prog 136 [sv s] [] 10 (.bool (nameB s)) [] 10:=by
 have hr:=recT_ok (P:=Tryz.prog) (l:=[(171,g8 letterB),(172,g8 digitB)]) (by simp only [List.forall_mem_cons]; exact ⟨ok171,ok172,by simp⟩)
 refine AC.pure Tryz.func136 rfl (by kernel_rfl) rfl [0,3] rfl ?_
 refine E.seq (E.reg hr (by simp; rfl) ?_)
 refine E.seq (E.seq ?_)
 by_cases hz:s.size=0
 · refine E.reg hr (by simp [hz]; rfl) ?_
   refine E.cond (by rfl) (fun h=>?_) (fun h=>?_)
   rotate_left
   · simp at h
   refine E.seq (E.reg hr (by simp; rfl) ?_)
   refine E.ret ?_
   exact pureK.ret rfl rfl (by simp [nameB,hz]) (sub_refl _)
 by_cases h24:(24:Int) < (s.size:Int)
 · refine E.reg hr (by simp [hz,h24]; rfl) ?_
   refine E.cond (by rfl) (fun h=>?_) (fun h=>?_)
   rotate_left
   · simp at h
   refine E.seq (E.reg hr (by simp; rfl) ?_)
   refine E.ret ?_
   exact pureK.ret rfl rfl (by simp [nameB,show ¬ s.size ≤ 24 by omega]) (sub_refl _)
 by_cases hl:letterB (byteB s 0)=true
 rotate_left
 · refine E.reg hr (by simp [hz,h24,index_str (s:=s) (j:=0) (by omega) (by omega),g8,hl]; rfl) ?_
   refine E.cond (by rfl) (fun h=>?_) (fun h=>?_)
   rotate_left
   · simp at h
   refine E.seq (E.reg hr (by simp; rfl) ?_)
   refine E.ret ?_
   exact pureK.ret rfl rfl (by simp [nameB_false (j:=0) (s:=s) (by omega) (by simp [okAt,hl])]) (sub_refl _)
 refine E.reg hr (by simp [hz,h24,index_str (s:=s) (j:=0) (by omega) (by omega),g8,hl]; rfl) ?_
 refine E.cond (by rfl) (fun h=>?_) (fun h=>?_)
 · simp at h
 refine E.skip (E.seq ?_)
 refine E.seq (E.reg hr (by simp; rfl) ?_)
 refine E.block (E.loop ?_)
 refine EL.ind (fun i:Nat=>{ fr:=[(0,sv s),(3,iv i)],sz:=42,H:=[],n:=10,marks:=[],vs:=[0,3] }) (fun i=>s.size - i) (fun i=>i ≤ s.size ∧ 1 ≤ i ∧ ∀ j,j < i → okAt s j=true) 1 (.less rfl rfl rfl (by simp) (by simp)) ⟨by omega,by omega,fun j hj=>by rw [show j=0 by omega]; simp [okAt,hl]⟩ (fun _=>rfl) ?_
 intro i ⟨hi,h1,hg⟩
 have hw:IntKind.i64.wrap ((i:Int) + 1)=(i:Int) + 1:=W_in (by omega) (by omega)
 refine E.seq (E.seq (E.reg hr (by simp; rfl) ?_))
 refine E.cond (by rfl) (fun h=>?_) (fun h=>?_)
 · simp at h
   refine E.skip (E.seq ?_)
   refine E.block (E.seq ?_)
   by_cases hp:partB (byteB s i)=true
   · have hok:okAt s i=true:=by simp [okAt,show i ≠ 0 by omega,hp]
     have hx:=index_str (s:=s) (j:=(i:Int)) (by omega) (by omega)
     simp [partB] at hp
     by_cases a1:letterB (byteB s i)=true
     · refine E.reg hr (by simp [hx,g8,a1]; rfl) ?_
       refine E.cond (by rfl) (fun h9=>?_) (fun h9=>?_)
       · simp at h9
       refine E.skip (E.reg hr (by simp [hw]; rfl) ?_)
       exact ⟨i + 1,.less rfl rfl rfl (by simp) (by simp),⟨h,by omega,fun j hj=>if e:j=i then e ▸ hok else hg j (by omega)⟩,by dsimp only; omega⟩
     by_cases a2:digitB (byteB s i)=true
     · refine E.reg hr (by simp [hx,g8,a1,a2]; rfl) ?_
       refine E.cond (by rfl) (fun h9=>?_) (fun h9=>?_)
       · simp at h9
       refine E.skip (E.reg hr (by simp [hw]; rfl) ?_)
       exact ⟨i + 1,.less rfl rfl rfl (by simp) (by simp),⟨h,by omega,fun j hj=>if e:j=i then e ▸ hok else hg j (by omega)⟩,by dsimp only; omega⟩
     have a3:byteB s i=95:=by simpa [a1,a2] using hp
     · refine E.reg hr (by simp [hx,g8,a3,show letterB 95=false from rfl,show digitB 95=false from rfl]; rfl) ?_
       refine E.cond (by rfl) (fun h9=>?_) (fun h9=>?_)
       · simp at h9
       refine E.skip (E.reg hr (by simp [hw]; rfl) ?_)
       exact ⟨i + 1,.less rfl rfl rfl (by simp) (by simp),⟨h,by omega,fun j hj=>if e:j=i then e ▸ hok else hg j (by omega)⟩,by dsimp only; omega⟩
   · have hok:okAt s i=false:=by simp [okAt,show i ≠ 0 by omega,hp]
     have hx:=index_str (s:=s) (j:=(i:Int)) (by omega) (by omega)
     simp [partB] at hp
     obtain ⟨⟨a1,a2⟩,a3⟩:=hp
     refine E.reg hr (by simp [hx,g8,a1,a2,a3]; rfl) ?_
     refine E.cond (by rfl) (fun h=>?_) (fun h=>?_)
     rotate_left
     · simp at h
     refine E.seq (E.reg hr (by simp; rfl) ?_)
     refine E.ret ?_
     exact pureK.ret rfl rfl (by simp [nameB_false (j:=i) (s:=s) (by omega) hok]) (sub_refl _)
 · simp at h
   refine E.exit ?_
   refine E.seq (E.reg hr (by simp; rfl) ?_)
   refine E.ret ?_
   exact pureK.ret rfl rfl (by simp [nameB_true (s:=s) hz (by omega) fun j hj=>hg j (by omega)]) (sub_refl _)
@[simp] theorem run_next {P:Program} {r:Rec} {st:St} {dst ty ps af g} {it:Operand}:runOp P r ⟨dst,.next it true,ty,ps,af,g⟩ st=opNext P it st.fr st.H st.n:=rfl
theorem E.regL {P:Program} {r:Rec} {m n0:Nat} {ro:Option Nat} (hr:RecOk P r m) {id:Nat} {ops:Array Oper} {st:St} {b:Code} {K:Ex → St → Prop} (s2:St) (h:∃ st',opsF P r ops ops.toList st=some st' ∧ Leads P n0 st' s2) (k:E P n0 ro b s2 K):E P n0 ro (.region id ops false) st (seqK P n0 ro b K):=by
 obtain ⟨st',h1,h2⟩:=h
 exact E.reg hr h1 (E.lead s2 h2 k)
theorem byteB_bounds (s:ByteArray) (i:Nat):0 ≤ byteB s i ∧ byteB s i ≤ 255:=by
 unfold byteB
 have:=(s.get! i).toNat_lt
 omega
def runeB (s:ByteArray) (i:Nat):Int:=(Utf8.decode s i).1
theorem rune_part (s:ByteArray) (i:Nat):letterB (runeB s i)=letterB (byteB s i) ∧ digitB (runeB s i)=digitB (byteB s i) ∧ (runeB s i=95 ↔ byteB s i=95) ∧ (byteB s i < 128 → (Utf8.decode s i).2=1):=by
 have hb:=byteB_bounds s i
 by_cases h:byteB s i < 128
 · have e:runeB s i=byteB s i:=by unfold runeB; rw [decode_low h]; dsimp only; omega
   rw [e]
   exact ⟨rfl,rfl,Iff.rfl,fun _=>by rw [decode_low h]⟩
 · obtain ⟨h1,h2⟩:=decode_high h
   have e:128 ≤ runeB s i:=by unfold runeB; omega
   refine ⟨?_,?_,by omega,fun h'=>absurd h' h⟩
   · have a1:¬ runeB s i ≤ 90:=by omega
     have a2:¬ runeB s i ≤ 122:=by omega
     have a3:¬ byteB s i ≤ 90:=by omega
     have a4:¬ byteB s i ≤ 122:=by omega
     simp [letterB,a1,a2,a3,a4]
   · have a1:¬ runeB s i ≤ 57:=by omega
     have a3:¬ byteB s i ≤ 57:=by omega
     simp [digitB,a1,a3]
theorem part_low {s:ByteArray} {i:Nat} (h:okAt s i=true):byteB s i < 128:=by
 unfold okAt partB letterB digitB at h
 split at h <;> simp at h <;> omega
theorem str_eq (a b:ByteArray):(a.toList == b.toList)=decide (a=b):=by
 rw [ByteArray.toList_eq,ByteArray.toList_eq]
 by_cases h:a=b
 · simp [h]
 · rw [decide_eq_false h]
   refine beq_eq_false_iff_ne.2 fun e=>h ?_
   cases a; cases b
   simp at e
   simp [e]
section
variable {P:Program} {t:TypeId} {x y:Operand} {H:Heap} {n:Nat} {a b:ByteArray}
@[simp] theorem bin_neqs:binV P .neq t x y (.string a) (.string b) H n=some (.bool (!decide (a=b)),H,n):=by
 have h:binV P .neq t x y (.string a) (.string b) H n=some (.bool (!(a.toList == b.toList)),H,n):=rfl
 rw [h,str_eq]
end
theorem str_empty (s:ByteArray):(s=(⟨#[]⟩:ByteArray)) ↔ s.size=0:=ByteArray.size_eq_zero_iff.symm
set_option maxRecDepth 100000 in
theorem w213 (s:ByteArray):AC Tryz.prog 213 [sv s] [] 10 (.bool (nameB s)) [] 10:=by
 have hr:=recT_ok (P:=Tryz.prog) (l:=[]) (by simp)
 refine AC.pure Tryz.func213 rfl (by kernel_rfl) rfl [0,8] rfl ?_
 refine E.seq (E.reg hr (by simp; rfl) ?_)
 refine E.seq (E.seq (E.reg hr (by simp; rfl) ?_))
 refine E.block (E.loop ?_)
 refine EL.ind (fun i:Nat=>{ fr:=[(0,sv s),(8,.pointer (some ⟨10,0,none⟩))],sz:=54,H:=[(10,.iter s i)],n:=11,marks:=[],vs:=[0,8] }) (fun i=>s.size - i) (fun i=>i ≤ s.size ∧ ∀ j,j < i → okAt s j=true) 0 (.less rfl rfl rfl (by simp) (by simp)) ⟨Nat.zero_le _,fun j hj=>absurd hj (by omega)⟩ (fun _=>rfl) ?_
 intro i ⟨hi,hg⟩
 obtain ⟨e1,e2,e3,e4⟩:=rune_part s i
 refine E.seq ?_
 by_cases h:i < s.size
 · refine E.reg hr (by simp [opNext,h]; rfl) ?_
   refine E.seq ?_
   refine E.cond (by rfl) (fun h9=>?_) (fun h9=>?_)
   rotate_left
   · simp at h9
   refine E.skip (E.block ?_)
   refine E.seq ?_
   have hru:((Utf8.decode s i).1:Int)=runeB s i:=rfl
   refine E.regL hr { fr:=[(3,iv i),(4,.int .i32 (runeB s i)),(0,sv s),(8,.pointer (some ⟨10,0,none⟩))],sz:=54,H:=[(10,.iter s (i + (Utf8.decode s i).2))],n:=11,marks:=[],vs:=[0,8] } ?_ ?_
   · (refine ⟨_,by simp; rfl,?_⟩; exact .less rfl rfl rfl (by simp [hru]) (by simp))
   refine E.seq ?_
   refine E.regL hr { fr:=[(5,.bool (letterB (runeB s i))),(3,iv i),(4,.int .i32 (runeB s i)),(0,sv s),(8,.pointer (some ⟨10,0,none⟩))],sz:=54,H:=[(10,.iter s (i + (Utf8.decode s i).2))],n:=11,marks:=[],vs:=[0,8] } ?_ ?_
   · generalize runeB s i=b
     by_cases h1:65 ≤ b <;> by_cases h2:b ≤ 90 <;> by_cases h3:97 ≤ b <;> by_cases h4:b ≤ 122 <;>
       (refine ⟨_,by simp [h1,h2,h3,h4,undefV]; rfl,?_⟩; exact .less rfl rfl rfl (by simp [letterB,h1,h2,h3,h4]) (by simp))
   refine E.seq ?_
   refine E.regL hr { fr:=[(6,.bool (digitB (runeB s i) || decide (runeB s i=95))),(5,.bool (letterB (runeB s i))),(3,iv i),(4,.int .i32 (runeB s i)),(0,sv s),(8,.pointer (some ⟨10,0,none⟩))],sz:=54,H:=[(10,.iter s (i + (Utf8.decode s i).2))],n:=11,marks:=[],vs:=[0,8] } ?_ ?_
   · generalize runeB s i=b
     by_cases h1:48 ≤ b <;> by_cases h2:b ≤ 57 <;> by_cases h3:b=95 <;>
       (refine ⟨_,by simp [h1,h2,h3,undefV]; rfl,?_⟩; exact .less rfl rfl rfl (by simp [digitB,h1,h2,h3]) (by simp))
   have hok:okAt s i=(letterB (runeB s i) || (!decide (i=0) && (digitB (runeB s i) || decide (runeB s i=95)))):=by
     rw [e1,e2]
     unfold okAt partB
     by_cases c0:i=0 <;> simp [c0,e3,Bool.or_assoc]
   refine E.seq ?_
   refine E.regL hr { fr:=[(46,.bool (!okAt s i)),(0,sv s),(8,.pointer (some ⟨10,0,none⟩))],sz:=54,H:=[(10,.iter s (i + (Utf8.decode s i).2))],n:=11,marks:=[],vs:=[0,8] } ?_ ?_
   · rw [hok]
     generalize letterB (runeB s i)=L
     generalize (digitB (runeB s i) || decide (runeB s i=95))=D
     generalize i + (Utf8.decode s i).2=q
     by_cases c0:i=0 <;> cases L <;> cases D <;>
       (refine ⟨_,by simp [c0,undefV]; rfl,?_⟩; exact .less rfl rfl rfl (by simp [c0]) (by simp))
   refine E.cond (by rfl) (fun h2=>?_) (fun h2=>?_)
   · simp at h2
     refine E.seq (E.reg hr (by simp; rfl) ?_)
     refine E.ret ?_
     exact pureK.ret rfl rfl (by simp [nameB_false (j:=i) (s:=s) h h2]) (by repeat first | exact sub_refl _ | refine sub_cons rfl ?_)
   · simp at h2
     refine E.skip ?_
     have hlow:=part_low h2
     exact ⟨i + 1,.less rfl rfl rfl (by simp) (by simp [e4 hlow]),⟨by omega,fun j hj=>if e:j=i then e ▸ h2 else hg j (by omega)⟩,by dsimp only; omega⟩
 · refine E.reg hr (by simp [opNext,h]; rfl) ?_
   refine E.seq ?_
   refine E.cond (by rfl) (fun h9=>?_) (fun h9=>?_)
   · simp at h9
   refine E.exit ?_
   refine E.seq ?_
   have hall:nameB s=(decide (s.size ≠ 0) && decide (s.size ≤ 24)):=by
     unfold nameB
     rw [show (List.range s.size).all (okAt s)=true from List.all_eq_true.2 fun j hj=>hg j (by have:=List.mem_range.1 hj; omega),Bool.and_true]
   refine E.regL hr { fr:=[(2,.bool (nameB s))],sz:=54,H:=[],n:=11,marks:=[],vs:=[0,8] } ?_ ?_
   · by_cases hz:s.size=0
     · refine ⟨_,by simp [str_empty,hz,undefV]; rfl,?_⟩
       exact .less rfl rfl rfl (by simp [hall,hz]) (by simp)
     · refine ⟨_,by simp [str_empty,hz]; rfl,?_⟩
       exact .less rfl rfl rfl (by simp [hall,hz]; omega) (by simp)
   refine E.ret ?_
   exact pureK.ret rfl rfl (by simp) (sub_refl _)
abbrev gSB (F:ByteArray → Bool) (args:List Value) (H:Heap) (n:Nat):R:=match args with | [.string s]=>some (.bool (F s),H,n) | _=>none
theorem okSB {f:FuncId} {F:ByteArray → Bool} (h:∀ s,AC Tryz.prog f [sv s] [] 10 (.bool (F s)) [] 10):EntOk Tryz.prog (f,gSB F):=by
 intro args H n v H' n' h'
 simp only [gSB] at h'
 split at h'
 · injection h' with h'; injection h' with e1 e2; injection e2 with e2 e3; subst e1 e2 e3
   exact AC.liftP rfl (Part.plainN (by simp) [] (by simp [Seen]) gszN ⟨_,_,h _⟩)
 · cases h'
theorem ok136:EntOk Tryz.prog (136,gSB nameB):=okSB w136
theorem ok213:EntOk Tryz.prog (213,gSB nameB):=okSB w213
end
end Go.Proofs.YtkongcnmkiihjaaGreatDoor.Gn
namespace Go.Ab
open Go Go.ChangeShapes Go.WideShapes
inductive Leaf where
 | int (k:IntKind) | str | bool | flt (k:FloatKind)
 deriving DecidableEq
def Leaf.fits:Leaf → Value → Prop
 | .int k,v=>∃ n,v = .int k n ∧ (Lit.int k n).wf=true
 | .str,v=>∃ s:ByteArray,v = .string s ∧ s.size ≤ maxLen
 | .bool,v=>∃ b,v = .bool b
 | .flt k,v=>∃ b,v = .float k b
def fitsL:List Leaf → List Value → Prop
 | [],[]=>True
 | l :: ls,v :: vs=>l.fits v ∧ fitsL ls vs
 | _,_=>False
def leafs (P:Program):Nat → TypeId → Option (List Leaf)
 | 0,_=>none
 | d + 1,t=>match P.underlying t with
   | some .bool=>some [.bool]
   | some .string=>some [.str]
   | some (.int k)=>some [.int k]
   | some (.float k)=>some [.flt k]
   | some (.array n e)=>match leafs P d e with
     | some l=>if l.length=P.cellsOf e ∧ P.cellsOf t=n * l.length then some (List.replicate n l).flatten else none
     | none=>none
   | some (.struct fs)=>match fs.toList.foldlM (fun acc f=>if f.offset=acc.length then (leafs P d f.type).bind fun l=>if l.length=P.cellsOf f.type then some (acc ++ l) else none else none) [] with
     | some l=>if l.length=P.cellsOf t then some l else none
     | none=>none
   | _=>none
theorem fitsL_append:∀ {a:List Leaf} {x:List Value} {b:List Leaf} {y:List Value},fitsL a x → fitsL b y → fitsL (a ++ b) (x ++ y)
 | [],[],_,_,_,h=>h
 | _ :: _,_ :: _,_,_,⟨h1,h2⟩,h=>⟨h1,fitsL_append h2 h⟩
 | [],_ :: _,_,_,h,_=>h.elim
 | _ :: _,[],_,_,h,_=>h.elim
theorem fitsL_length:∀ {a:List Leaf} {x:List Value},fitsL a x → x.length=a.length
 | [],[],_=>rfl
 | _ :: _,_ :: _,⟨_,h2⟩=>congrArg (· + 1) (fitsL_length h2)
 | [],_ :: _,h=>h.elim
 | _ :: _,[],h=>h.elim
section
variable {H:Type} {enc:TypeId × Value → H} {P:Program} {w:World} {base:Nat} {spare:Nat → Bool} {held:Bool}
theorem leafs_ok:∀ (d:Nat) (t:TypeId) (ls:List Leaf) (fuel:Nat) (cs:List Value) (x:DataW H × List MemPlace),leafs P d t=some ls → DataW.trod enc P w base spare held fuel t cs=some x → fitsL ls cs
 | 0,_,_,_,_,_,hl,_=>by simp [leafs] at hl
 | d + 1,t,ls,fuel,cs,x,hl,h=>by
   unfold leafs at hl
   split at hl
   · rename_i ht
     injection hl with hl; subst hl
     obtain ⟨b,rfl,_⟩:=DataW.trod_bool ht h
     exact ⟨⟨b,rfl⟩,trivial⟩
   · rename_i ht
     injection hl with hl; subst hl
     obtain ⟨b,rfl,_,hs⟩:=DataW.trod_string ht h
     exact ⟨⟨b,rfl,hs⟩,trivial⟩
   · rename_i k ht
     injection hl with hl; subst hl
     obtain ⟨b,rfl,_,hs⟩:=DataW.trod_int ht h
     exact ⟨⟨b,rfl,hs⟩,trivial⟩
   · rename_i k ht
     injection hl with hl; subst hl
     cases fuel with
     | zero=>simp [DataW.trod] at h
     | succ n=>
       unfold DataW.trod at h
       rw [ht] at h
       split at h <;> simp_all
       obtain ⟨⟨rfl,_⟩,_⟩:=h
       exact ⟨⟨_,rfl⟩,trivial⟩
   · rename_i n e ht
     obtain ⟨xs,m,rfl,_,hlen,hxl,hel⟩:=DataW.trod_array ht h
     split at hl
     · rename_i l he
       split at hl
       · rename_i hc
         injection hl with hl; subst hl
         have key:∀ k,k ≤ n → fitsL (List.replicate k l).flatten (cs.take (k * l.length)):=by
           intro k
           induction k with
           | zero=>intro _; simp [fitsL]
           | succ k ih=>
             intro hk
             have h1:=hel k (by omega)
             obtain ⟨y,hy⟩:∃ y,xs[k]? = some y:=⟨xs[k]'(by omega),by simp⟩
             rw [hy] at h1
             have h2:=leafs_ok d e l m _ y he h1
             rw [List.replicate_succ',List.flatten_append,Nat.succ_mul,List.take_add]
             rw [← hc.1] at h2
             simpa using fitsL_append (ih (by omega)) h2
         have:=key n (Nat.le_refl _)
         rw [List.take_of_length_le (by rw [hlen,hc.2]; exact Nat.le_refl _)] at this
         exact this
       · cases hl
     · cases hl
   · rename_i fs ht
     obtain ⟨xs,m,rfl,_,hlen,hxl,hel⟩:=DataW.trod_struct ht h
     split at hl
     · rename_i l hf
       split at hl
       · rename_i hc
         injection hl with hl; subst hl
         have key : ∀ (fl : List Field) (acc res : List Leaf), fl.foldlM (fun acc f => if f.offset = acc.length then (leafs P d f.type).bind fun l => if l.length = P.cellsOf f.type then some (acc ++ l) else none else none) acc = some res →
             fitsL acc (cs.take acc.length) → (∀ f ∈ fl,∃ y,DataW.trod enc P w base spare held m f.type ((cs.drop f.offset).take (P.cellsOf f.type))=some y) → fitsL res (cs.take res.length):=by
           intro fl
           induction fl with
           | nil=>intro acc res h1 h2 _; injection h1 with h1; subst h1; exact h2
           | cons f fl ih=>
             intro acc res h1 h2 h3
             rw [List.foldlM_cons] at h1
             simp only [Option.bind_eq_bind,Option.bind_eq_some_iff] at h1
             obtain ⟨acc',h1,h4⟩:=h1
             split at h1
             · rename_i ho
               rw [Option.bind_eq_some_iff] at h1
               obtain ⟨l',h5,h6⟩:=h1
               split at h6
               · rename_i hc'
                 injection h6 with h6; subst h6
                 obtain ⟨y,hy⟩:=h3 f (List.mem_cons_self ..)
                 have:=leafs_ok d f.type l' m _ y h5 hy
                 rw [← hc',ho] at this
                 refine ih _ _ h4 ?_ fun g hg=>h3 g (List.mem_cons_of_mem _ hg)
                 rw [List.length_append,List.take_add]
                 exact fitsL_append h2 this
               · cases h6
             · cases h1
         have:=key fs.toList [] _ hf (by simp [fitsL]) fun f hf=>by
           obtain ⟨i,hi,rfl⟩:=List.getElem_of_mem hf
           have h1:=hel i fs[i] (by simp)
           obtain ⟨y,hy⟩:∃ y,xs[i]? = some y:=⟨xs[i]'(by rw [hxl]; simpa using hi),by simp⟩
           rw [hy] at h1
           exact ⟨y,by simpa using h1⟩
         rw [List.take_of_length_le (by rw [hlen,hc]; exact Nat.le_refl _)] at this
         exact this
       · cases hl
     · cases hl
   · cases hl
theorem flatten_get {m:Nat} (hm:0 < m):∀ (rows:List (List Value)) (j:Nat),(∀ r ∈ rows,r.length=m) → rows.flatten[j]? = (rows[j / m]?).bind (·[j % m]?)
 | [],j,_=>by simp
 | r :: rows,j,h=>by
   have hr:=h r (List.mem_cons_self ..)
   rw [List.flatten_cons]
   rcases Nat.lt_or_ge j m with hj | hj
   · rw [List.getElem?_append_left (by omega),Nat.div_eq_of_lt hj,Nat.mod_eq_of_lt hj]
     simp
   · rw [List.getElem?_append_right (by omega),hr,flatten_get hm rows (j - m) fun r hr=>h r (List.mem_cons_of_mem _ hr)]
     obtain ⟨k,rfl⟩:∃ k,j=k + m:=⟨j - m,by omega⟩
     rw [Nat.add_sub_cancel,Nat.add_div_right _ hm,Nat.add_mod_right,List.getElem?_cons_succ]
theorem okWide_addr {r:Reach} {t e:TypeId} {a:Addr} {len cap:Nat} (ht:P.underlying t=some (.slice e)) (h:Cell.okWide P w r base t (.slice (some a) len cap)):a.spot=none ∧ ∃ c t fz,w.heap[a.block]? = some (.cells c t fz):=by
 unfold Cell.okWide at h
 rw [ht] at h
 simp only at h
 unfold Cell.ok at h
 rw [ht] at h
 obtain ⟨_,_,_,hs,row,cells,hsh,_⟩:=h
 refine ⟨hs,?_⟩
 unfold World.shape? at hsh
 split at hsh
 · rename_i c el fz hw
   exact ⟨c,el,fz,hw⟩
 · cases hsh
theorem cell_get {b o:Nat} {c:Array Value} {t:TypeId} {fz:Nat × Nat} (hw:w.heap[b]? = some (.cells c t fz)):w.cell? ⟨b,o,none⟩=c[o]?:=by
 unfold World.cell?
 rw [hw]
 simp
end
end Go.Ab
namespace Go.Proofs.YtkongcnmkiihjaaGreatDoor.Gn
open Go Go.Ab Go.Proofs
end Go.Proofs.YtkongcnmkiihjaaGreatDoor.Gn
namespace Go.Ab
open Go
end Go.Ab
namespace Go.Proofs.YtkongcnmkiihjaaGreatDoor.Gn
open Go Go.Ab Go.Proofs
end Go.Proofs.YtkongcnmkiihjaaGreatDoor.Gn
namespace Go.Soft
end Go.Soft
namespace Go.Proofs.YtkongcnmkiihjaaGreatDoor.Gn
open Go Go.Ab Go.Proofs Go.Soft
end Go.Proofs.YtkongcnmkiihjaaGreatDoor.Gn
namespace Go.Ab
open Go
end Go.Ab
namespace Go.Proofs.YtkongcnmkiihjaaGreatDoor.Gn
open Go Go.Ab Go.Proofs Go.Soft
end Go.Proofs.YtkongcnmkiihjaaGreatDoor.Gn
namespace Go.Ab
open Go
theorem flat_at {α:Type} {c:α → List Value} {sz:Nat} (hc:∀ x,(c x).length=sz):∀ (l:List α) (i:Nat) (h:i < l.length),((l.flatMap c).drop (i * sz)).take sz=c l[i]
 | x :: l,0,_=>by
   simp only [Nat.zero_mul,List.drop_zero,List.flatMap_cons,List.getElem_cons_zero]
   exact List.take_left' (hc x)
 | x :: l,i + 1,h=>by
   rw [Nat.succ_mul,Nat.add_comm,← List.drop_drop,List.flatMap_cons,List.drop_left' (hc x)]
   exact flat_at hc l i (by simpa using h)
theorem flat_len {α:Type} {c:α → List Value} {sz:Nat} (hc:∀ x,(c x).length=sz):∀ l:List α,(l.flatMap c).length=l.length * sz
 | []=>by simp
 | x :: l=>by
   rw [List.flatMap_cons,List.length_append,hc,flat_len hc l,List.length_cons,Nat.succ_mul,Nat.add_comm]
theorem listV_flat {α:Type} {c:α → List Value} {sz:Nat} {dec:Dec α} (hc:∀ x,(c x).length=sz) {H:Heap} (hd:∀ x,dec H (c x)=some x) {a:Addr} {cap:Nat} {l:List α} (hf:flat a=true) (hcs:cellsA H a.block a.off (l.length * sz)=some (l.flatMap c)) (hlt:l.length < 2147483648):listV sz dec H (.slice (some a) l.length cap)=some l:=by
 show (if l.length < 2147483648 then _ else _)=_
 rw [if_pos hlt]
 by_cases h0:l.length=0
 · rw [if_pos h0,List.length_eq_zero_iff.1 h0]
 · rw [if_neg h0,if_pos hf,hcs]
   refine mapO_of (chunks_len _ _ _) fun i x hx=>?_
   by_cases hi:i < l.length
   · rw [chunks_get _ _ _ _ hi] at hx
     injection hx with hx
     rw [← hx,flat_at hc l i hi,hd,List.getElem?_eq_getElem hi]
   · rw [List.getElem?_eq_none (by rw [chunks_len]; omega)] at hx
     cases hx
theorem listV_outS {α:Type} {c:α → List Value} {sz t:Nat} {dec:Dec α} (hc:∀ x,(c x).length=sz) (hd:∀ H x,dec H (c x)=some x) {N:Nat} {Z:Heap} {l:List α} (hlt:l.length < 2147483648):listV sz dec (outSB N t sz l.length (l.flatMap c) ++ Z) (outS N l.length)=some l:=by
 by_cases h0:l.length=0
 · rw [List.length_eq_zero_iff.1 h0]; rfl
 · rw [outS_ne h0,outSB,if_neg h0]
   refine listV_flat hc (hd _) rfl ?_ hlt
   show cellsA ((N,.ext (l.flatMap c) t sz) :: Z) N 0 _=_
   rw [cellsA_eq,hget_cons,if_pos rfl]
   simp only [Option.bind_some,cellsB]
   rw [if_pos (by rw [flat_len hc]; omega),List.drop_zero,List.take_of_length_le (by rw [flat_len hc]; omega)]
end Go.Ab
namespace Go.Proofs.YtkongcnmkiihjaaGreatDoor.Gn
open Go Go.Ab Go.Proofs Ieee
abbrev fl (b:Nat):Value:=.float .f32 b
def decFl:Dec Nat:=fun _ cs=>match cs with
 | [.float .f32 b]=>some b
 | _=>none
theorem decFl_tidy:DecTidy decFl:=fun _H _n _cs _y _ h=>h
abbrev fltV (H:Heap) (v:Value):Option (List Nat):=listV 1 decFl H v
theorem fltV_form {H : Heap} {v : Value} {l : List Nat} (h : fltV H v = some l) :
   ∃ oa c,v = .slice oa l.length c ∧ l.length < 2147483648 ∧ (oa=none → c=0) ∧ ∀ i (hi:i < l.length),∃ a,oa=some a ∧ flat a=true ∧ cellA H a.block (a.off + i)=some (fl l[i]):=by
 obtain ⟨oa,c,e,h1,h2,h3⟩:=listV_form h
 refine ⟨oa,c,e,h1,h2,fun i hi=>?_⟩
 obtain ⟨a,r,e1,e2,e3,e4⟩:=h3 i hi
 rw [Nat.mul_one] at e3
 obtain ⟨x,rfl,hx⟩:=cells_one e3
 refine ⟨a,e1,e2,?_⟩
 rw [hx]
 unfold decFl at e4
 split at e4
 · rename_i b hb
   injection hb with hb
   injection e4 with e4
   rw [hb,e4]
 · cases e4
def chkV (m:Int) (l:List Nat):Int:=if m < l.length then 5 else firstV (l.map err32)
theorem w194 {H:Heap} {n:Nat} {v:Value} {l:List Nat} (hV:fltV H v=some l):AC Tryz.prog 194 [v] H n (iv (firstV (l.map err32))) H n:=by
 refine AC.given fun hold hsc hgn=>AC.tidied (B:=[]) (by simp) ?_
 replace hV:fltV (tidy n H) v=some l:=listV_tidy decFl_tidy (fun k b h=>(hold k b h).1) hV
 have hr:=recT_ok (P:=Tryz.prog) (l:=[(217,gFl fun b=>iv (err32 b))]) (by simp [ok217])
 obtain ⟨oa,c,rfl,hlt,_,hrow⟩:=fltV_form hV
 refine AC.pure Tryz.func194 rfl (by kernel_rfl) rfl [0,3] rfl ?_
 refine E.seq (E.reg hr (by simp; rfl) ?_)
 refine E.seq (E.seq (E.reg hr (by simp; rfl) ?_))
 refine E.block (E.loop ?_)
 refine EL.ind (fun i:Nat=>{ fr:=[(0,.slice oa l.length c),(3,iv i)],sz:=19,H:=tidy n H,n:=n,marks:=[],vs:=[0,3] }) (fun i=>l.length - i) (fun i=>i ≤ l.length ∧ firstV (l.map err32)=firstV ((l.drop i).map err32)) 0 (.keep rfl rfl rfl (by simp) (Sub.refl _)) ⟨Nat.zero_le _,rfl⟩ (fun _=>rfl) ?_
 rintro i ⟨hi,hg⟩
 have hw:IntKind.i64.wrap ((i:Int) + 1)=(i:Int) + 1:=W_in (by omega) (by omega)
 refine E.seq (E.seq (E.reg hr (by simp; rfl) ?_))
 by_cases hil:i < l.length
 · obtain ⟨a,rfl,hf,hc⟩:=hrow i hil
   rw [List.drop_eq_getElem_cons hil,List.map_cons,firstV] at hg
   obtain ⟨q,hq⟩:∃ q,l[i]=q:=⟨_,rfl⟩
   rw [hq] at hc hg
   have hfl:∀ H m,gFl (fun b=>iv (err32 b)) [.float .f32 q] H m=some (iv (err32 q),H,m):=fun _ _=>rfl
   refine E.cond (t:=true) (by simp [hil]) (fun _=>?_) (fun h=>by cases h)
   refine E.skip (E.seq ?_)
   refine E.block (E.seq (E.reg hr (by simp [-cellA,-flat,hil,hf,hc,hfl]; rfl) ?_))
   refine E.seq (E.reg hr (by simp; rfl) ?_)
   by_cases he:err32 q=0
   · rw [if_pos he] at hg
     refine E.cond (t:=false) (by simp [he]) (fun h=>by cases h) (fun _=>?_)
     refine E.skip (E.reg hr (by simp [hw]; rfl) ?_)
     exact ⟨i + 1,.keep rfl rfl rfl (by simp) (Sub.refl _),⟨hil,hg⟩,by dsimp only; omega⟩
   · rw [if_neg he] at hg
     refine E.cond (t:=true) (by simp [he]) (fun _=>?_) (fun h=>by cases h)
     refine E.seq (E.reg hr (by simp; rfl) ?_)
     refine E.ret ?_
     exact pureK.ret rfl rfl (by simp [hg]) (Sub.refl _)
 · refine E.cond (t:=false) (by simp [hil]) (fun h=>by cases h) (fun _=>?_)
   refine E.exit ?_
   rw [List.drop_of_length_le (by omega)] at hg
   refine E.seq (E.reg hr (by simp; rfl) ?_)
   refine E.ret ?_
   exact pureK.ret rfl rfl (by rw [hg]; rfl) (Sub.refl _)
def gErr (F:List Nat → Int) (args:List Value) (H:Heap) (n:Nat):R:=match args with
 | [v]=>(fltV H v).map fun l=>(iv (F l),H,n)
 | _=>none
theorem okErr {f:FuncId} {F:List Nat → Int} (h:∀ H n v l,fltV H v=some l → AC Tryz.prog f [v] H n (iv (F l)) H n):EntOk Tryz.prog (f,gErr F):=by
 intro args H n v H' n' h'
 simp only [gErr] at h'
 split at h'
 · rw [Option.map_eq_some_iff] at h'
   obtain ⟨l,h1,h2⟩:=h'
   injection h2 with e1 e2; injection e2 with e2 e3; subst e1 e2 e3
   exact h _ _ _ _ h1
 · cases h'
theorem ok194:EntOk Tryz.prog (194,gErr fun l=>firstV (l.map err32)):=okErr fun _ _ _ _ h=>w194 h
theorem w174 {H:Heap} {n:Nat} {v:Value} {l:List Nat} (hV:fltV H v=some l):AC Tryz.prog 174 [v] H n (iv (chkV 1024 l)) H n:=by
 refine AC.given fun hold hsc hgn=>AC.tidied (B:=[]) (by simp) ?_
 replace hV:fltV (tidy n H) v=some l:=listV_tidy decFl_tidy (fun k b h=>(hold k b h).1) hV
 have hr:=recT_ok (P:=Tryz.prog) (l:=[(194,gErr fun l=>firstV (l.map err32))]) (by simp [ok194])
 obtain ⟨oa,c,rfl,hlt,_,_⟩:=fltV_form hV
 have h87:∀ k,gErr (fun l=>firstV (l.map err32)) [.slice oa l.length c] (tidy n H) k=some (iv (firstV (l.map err32)),tidy n H,k):=fun k=>by
   simp only [gErr,hV,Option.map_some]
 refine AC.pure Tryz.func174 rfl (by kernel_rfl) rfl [] rfl ?_
 refine E.seq (E.reg hr (by simp; rfl) ?_)
 refine E.seq (E.seq (E.reg hr (by simp; rfl) ?_))
 by_cases hm:1024 < (l.length:Int)
 · refine E.cond (t:=true) (by simp [hm]) (fun _=>?_) (fun h=>by cases h)
   refine E.seq (E.reg hr (by simp; rfl) ?_)
   refine E.ret ?_
   exact pureK.ret rfl rfl (by simp [chkV,hm]) (Sub.refl _)
 · refine E.cond (t:=false) (by simp [hm]) (fun h=>by cases h) (fun _=>?_)
   refine E.skip (E.seq (E.reg hr (by simp [h87]; rfl) ?_))
   refine E.ret ?_
   exact pureK.ret rfl rfl (by simp [chkV,hm]) (Sub.refl _)
theorem ok174:EntOk Tryz.prog (174,gErr (chkV 1024)):=okErr fun _ _ _ _ h=>w174 h
end Go.Proofs.YtkongcnmkiihjaaGreatDoor.Gn
namespace Go.Ab
open Go
structure RowD (δ α:Type) (dec:Dec α) where
 val:Nat → δ → Value
 blk:δ → Blk
 row:δ → List α
 ren:∀ (ρ:Nat → Nat) m l,Ab.ren ρ (val m l)=val (ρ m) l
 sc:∀ (p:Nat → Prop) m l,p m → Ab.sc p (val m l)
 fix:∀ (ρ:Nat → Nat) l,renB ρ (blk l)=blk l
 scB:∀ (p:Nat → Prop) l,Ab.scB p (blk l)
 car:∀ l,carried (blk l)
 own:∀ l,(blk l).own=true
 see:∀ H m l,hget H m=some (blk l) → (row l).length < 2147483648 → listV 1 dec H (val m l)=some (row l)
section
variable {δ α:Type} {dec:Dec α}
def kvd (K:RowD δ α dec):List Nat → List δ → List Value
 | m :: ms,l :: ls=>K.val m l :: kvd K ms ls
 | _,_=>[]
end
def svL (l:List ByteArray):List Value:=l.map sv
theorem svL_ren (ρ:Nat → Nat):∀ l:List ByteArray,renL ρ (svL l)=svL l
 | []=>rfl
 | s :: l=>by
   have:=svL_ren ρ l
   unfold svL at this ⊢
   simp only [List.map_cons,renL,ren,this]
theorem svL_sc (p:Nat → Prop):∀ l:List ByteArray,scL p (svL l)
 | []=>trivial
 | _ :: l=>⟨trivial,svL_sc p l⟩
@[simp] theorem svL_len (l:List ByteArray):(svL l).length=l.length:=by simp [svL]
def kTx (t:TypeId):RowD (Bool × List ByteArray) ByteArray decS where
 val:=fun m d=>if d.1 then .slice (some ⟨m,0,none⟩) d.2.length d.2.length else .slice (some ⟨m,0,some 0⟩) d.2.length 0
 blk:=fun d=>if d.1 then .cells (svL d.2) t else .ext (svL d.2) t 1
 row:=fun d=>d.2
 ren:=fun ρ m d=>by split <;> rfl
 sc:=fun p m d h=>by split <;> exact h
 fix:=fun ρ d=>by split <;> simp only [renB,svL_ren]
 scB:=fun p d=>by split <;> exact svL_sc p d.2
 car:=fun d=>by split <;> trivial
 own:=fun d=>by split <;> rfl
 see:=fun H m d h hl=>by
   obtain ⟨b,l⟩:=d
   cases b with
   | true=>exact listV_mk (cs:=svL l) rfl (by rw [cellsA_eq,h]; simp [cellsB]; exact List.take_of_length_le (by simp)) (by simp) hl dec_sv
   | false=>exact listV_mk (cs:=svL l) rfl (by rw [cellsA_eq,h]; simp [cellsB]; exact List.take_of_length_le (by simp)) (by simp) hl dec_sv
def oLit (t:TypeId):LstK where
 val:=fun m k=>if k=1 then .slice (some ⟨m,0,none⟩) 1 1 else .slice (some ⟨m,0,some 0⟩) k 0
 blk:=fun l=>if l.length=1 then .cells l t else .ext l t 1
 ren:=fun ρ m l=>by split <;> rfl
 sc:=fun p m l h=>by split <;> exact h
 af:=fun m k=>by split <;> rfl
 fix:=fun ρ l=>by
   have:(renL ρ l).length=l.length:=by rw [renL_eq,List.length_map]
   rw [this]
   split <;> rfl
 scB:=fun p l h=>by split <;> exact h
 car:=fun l=>by split <;> trivial
 own:=fun l=>by split <;> rfl
 cells:=fun H m l h=>by
   rw [cellsA_eq,h]
   split <;> simp [cellsB]
 form:=fun m k=>by
   by_cases h:k=1
   · subst h; exact ⟨none,1,rfl,rfl⟩
   · exact ⟨some 0,0,if_neg h,rfl⟩
end Go.Ab
namespace Go.Proofs.YtkongcnmkiihjaaGreatDoor.Gn
open Go Go.Ab Go.Proofs Go.Soft
abbrev TxD:=Bool × List ByteArray
abbrev kT:RowD TxD ByteArray decS:=kTx 9
abbrev oT:LstK:=oLit 155
structure LB (q:Nat) (K:Heap) (ms:List Nat) (ds:List TxD) (o:Nat) (Hx:Heap) (N:Nat):Prop where
 sub:Sub K Hx
 nm:namesOk N Hx=true
 pl:plainH Hx=true
 len:ms.length=ds.length
 row:∀ (i m:Nat) (d:TxD),ms[i]? = some m → ds[i]? = some d → hget Hx m=some (kT.blk d)
 out:hget Hx o=some (oT.blk (kvd kT ms ds))
 mem:∀ m ∈ ms,q ≤ m ∧ m < N ∧ m ≠ o
 nd:ms.Nodup
 ho:q ≤ o ∧ o < N
 ne:ds ≠ []
section
variable {q o N:Nat} {K Hx:Heap} {ms:List Nat} {ds:List TxD}
theorem LB.first (hK:∀ k b,hget K k=some b → k < q) (hnm:namesOk q K=true) (hpl:plainH K=true) (s:ByteArray):LB q K [q] [(true,[s])] (q + 1) ((q + 1,.cells [.slice (some ⟨q,0,none⟩) 1 1] 155) :: (q,.cells [sv s] 9) :: K) (q + 1 + 1):=by
 refine ⟨fun k b hk=>?_,namesOk_put (by omega) (namesOk_put (by omega) (namesOk_mono (by omega) _ hnm)),by simp [plainH,hpl],rfl,fun i m d h1 h2=>?_,?_,fun m hm=>?_,by simp,⟨by omega,by omega⟩,by simp⟩
 · have:=hK k b hk
   rw [hget_cons,if_neg (by omega),hget_cons,if_neg (by omega)]
   exact hk
 · have hi:i=0:=by
     have:=(List.getElem?_eq_some_iff.1 h1).1
     simp at this
     exact this
   subst hi
   simp at h1 h2
   subst h1 h2
   rw [hget_cons,if_neg (by omega),hget_cons,if_pos rfl]
   rfl
 · rw [hget_cons,if_pos rfl]
   rfl
 · rw [List.mem_singleton] at hm
   omega
end
end Go.Proofs.YtkongcnmkiihjaaGreatDoor.Gn
namespace Go.Soft
end Go.Soft
namespace Go.Proofs.YtkongcnmkiihjaaGreatDoor.Gn
open Go Go.Ab Go.Proofs Ieee
theorem cellA_read {L:List Nat} {H:Heap} {a o:Nat}:cellA (readA L H) a o=if memN L a=true then cellA H a o else none:=by
 rw [cellA_eq,cellA_eq,hget_readA]
 split <;> rfl
def eqF (a b:Nat):Bool:=FloatKind.f32.format.order a b == some .eq
def sameF:List Nat → List Nat → Bool
 | [],[]=>true
 | a :: l,b :: k=>eqF a b && sameF l k
 | _,_=>false
theorem sameF_len:∀ {l k:List Nat},sameF l k=true → l.length=k.length
 | [],[],_=>rfl
 | a :: l,b :: k,h=>by
   simp only [sameF,Bool.and_eq_true] at h
   rw [List.length_cons,List.length_cons,sameF_len h.2]
 | [],_ :: _,h=>by cases h
 | _ :: _,[],h=>by cases h
theorem sameF_drop {l k:List Nat} {i:Nat} (h1:i < l.length) (h2:i < k.length):sameF (l.drop i) (k.drop i)=(eqF l[i] k[i] && sameF (l.drop (i + 1)) (k.drop (i + 1))):=by
 rw [List.drop_eq_getElem_cons h1,List.drop_eq_getElem_cons h2]
 rfl
set_option maxRecDepth 20000 in
theorem w78F {H:Heap} {n:Nat} {v u:Value} {l k:List Nat} (hV:fltV H v=some l) (hU:fltV H u=some k):AC Tryz.prog 78 [v,u] H n (.bool (sameF l k)) H n:=by
 refine AC.given fun hold hsc hgn=>AC.tidied (B:=[]) (by simp) ?_
 have hlt0:=fun k b h=>(hold k b h).1
 replace hV:fltV (tidy n H) v=some l:=listV_tidy decFl_tidy hlt0 hV
 replace hU:fltV (tidy n H) u=some k:=listV_tidy decFl_tidy hlt0 hU
 have hr:=recT_ok (P:=Tryz.prog) (l:=[]) (by simp)
 obtain ⟨oa,c,rfl,hlt,_,hrow⟩:=fltV_form hV
 obtain ⟨ob,c2,rfl,hlt2,_,hrow2⟩:=fltV_form hU
 refine AC.pure Tryz.func78 rfl (by kernel_rfl) rfl [0,1,5] rfl ?_
 refine E.seq (E.reg hr (by simp; rfl) ?_)
 refine E.seq (E.seq (E.reg hr (by simp; rfl) ?_))
 by_cases hl:l.length=k.length
 case neg=>
   have hs:sameF l k=false:=by
     cases h:sameF l k with
     | false=>rfl
     | true=>exact absurd (sameF_len h) hl
   have hl':¬ (l.length:Int)=k.length:=by omega
   refine E.cond (t:=true) (by simp [hl']) (fun _=>?_) (fun h=>by cases h)
   refine E.seq (E.reg hr (by simp; rfl) ?_)
   refine E.ret ?_
   exact pureK.ret rfl rfl (by simp [hs]) (Sub.refl _)
 refine E.cond (t:=false) (by simp [hl]) (fun h=>by cases h) (fun _=>?_)
 refine E.skip (E.seq ?_)
 refine E.seq (E.reg hr (by simp; rfl) ?_)
 refine E.block (E.loop ?_)
 refine EL.ind (fun i:Nat=>{ fr:=[(0,.slice oa l.length c),(1,.slice ob k.length c2),(5,iv i)],sz:=26,H:=tidy n H,n:=n,marks:=[],vs:=[0,1,5] }) (fun i=>l.length - i) (fun i=>i ≤ l.length ∧ sameF l k=sameF (l.drop i) (k.drop i)) 0 (.keep rfl rfl rfl (by simp) (Sub.refl _)) ⟨Nat.zero_le _,rfl⟩ (fun _=>rfl) ?_
 rintro i ⟨hi,hg⟩
 have hw:IntKind.i64.wrap ((i:Int) + 1)=(i:Int) + 1:=W_in (by omega) (by omega)
 refine E.seq (E.seq (E.reg hr (by simp; rfl) ?_))
 by_cases hil:i < l.length
 · have hil2:i < k.length:=by omega
   have hilI:(i:Int) < k.length:=by omega
   obtain ⟨a,rfl,hf,hc⟩:=hrow i hil
   obtain ⟨b,rfl,hf2,hc2⟩:=hrow2 i hil2
   rw [sameF_drop hil hil2] at hg
   have ha:a.block < n:=cellA_lt (fun k b h=>tidy_lt k b h) hc
   have hb:b.block < n:=cellA_lt (fun k b h=>tidy_lt k b h) hc2
   obtain ⟨x,hx⟩:∃ x,l[i]=x:=⟨_,rfl⟩
   obtain ⟨y,hy⟩:∃ y,k[i]=y:=⟨_,rfl⟩
   rw [hx] at hc hg
   rw [hy] at hc2 hg
   refine E.cond (t:=true) (by simp [hil]) (fun _=>?_) (fun h=>by cases h)
   refine E.skip (E.seq ?_)
   refine E.block (E.seq ?_)
   cases he:eqF x y with
   | true=>
     have ho:(FloatKind.f32.format.order x y != some Ordering.eq)=false:=by
       unfold eqF at he
       simp only [bne,he,Bool.not_true]
     rw [he,Bool.true_and] at hg
     refine E.drawU mixed hr [] [] [3,7] (by kernel_rfl) (by simp [-cellA,-readA,-flat,cellA_read,hil,hilI,hf,hf2,hc,hc2,ha,hb,bin_fneql,ho]; rfl) ?_
     refine E.cond (t:=false) (by simp) (fun h=>by cases h) (fun _=>?_)
     refine E.skip (E.reg hr (by simp [hw]; rfl) ?_)
     exact ⟨i + 1,.keep rfl rfl rfl (by simp) (Sub.refl _),⟨hil,hg⟩,by dsimp only; omega⟩
   | false=>
     have ho:(FloatKind.f32.format.order x y != some Ordering.eq)=true:=by
       unfold eqF at he
       simp only [bne,he,Bool.not_false]
     rw [he,Bool.false_and] at hg
     refine E.drawU mixed hr [] [] [3,7] (by kernel_rfl) (by simp [-cellA,-readA,-flat,cellA_read,hil,hilI,hf,hf2,hc,hc2,ha,hb,bin_fneql,ho]; rfl) ?_
     refine E.cond (t:=true) (by simp) (fun _=>?_) (fun h=>by cases h)
     refine E.seq (E.reg hr (by simp; rfl) ?_)
     refine E.ret ?_
     exact pureK.ret rfl rfl (by simp [hg]) (Sub.refl _)
 · rw [List.drop_of_length_le (by omega),List.drop_of_length_le (by omega)] at hg
   refine E.cond (t:=false) (by simp [hil]) (fun h=>by cases h) (fun _=>?_)
   refine E.exit ?_
   refine E.seq (E.reg hr (by simp; rfl) ?_)
   refine E.ret ?_
   exact pureK.ret rfl rfl (by rw [hg]; rfl) (Sub.refl _)
def g78F (args:List Value) (H:Heap) (n:Nat):R:=match args with
 | [v,u]=>match fltV H v,fltV H u with
   | some l,some k=>some (.bool (sameF l k),H,n)
   | _,_=>none
 | _=>none
theorem ok78F:EntOk Tryz.prog (78,g78F):=by
 intro args H n v H' n' h
 simp only [g78F] at h
 split at h
 · split at h
   · rename_i h1 h2
     injection h with h; injection h with e1 e2; injection e2 with e2 e3; subst e1 e2 e3
     exact w78F h1 h2
   · cases h
 · cases h
end Go.Proofs.YtkongcnmkiihjaaGreatDoor.Gn
namespace Go.Proofs.YtkongcnmkiihjaaGreatDoor
open Go Go.Ab Go.Proofs
theorem dec_same:Gn.decFl=decR:=by
 funext H cs
 unfold Gn.decFl decR
 split
 · rfl
 · rename_i h
   split
   · rename_i b
     exact absurd rfl (h b)
   · rfl
theorem flt_same (H:Heap) (v:Value):Gn.fltV H v=reaV H v:=by
 show listV 1 Gn.decFl H v=listV 1 decR H v
 rw [dec_same]
def intsQ:List Value → Option (List Int)
 | []=>some []
 | .int .i64 n :: l=>(intsQ l).map (n :: ·)
 | _=>none
theorem intsQ_map:∀ l:List Int,intsQ (l.map iv)=some l
 | []=>rfl
 | n :: l=>by
   show (intsQ (l.map iv)).map (n :: ·)=_
   rw [intsQ_map l]
   rfl
theorem intsQ_form:∀ {cs:List Value} {l:List Int},intsQ cs=some l → cs=l.map iv
 | [],l,h=>by injection h with h; subst h; rfl
 | x :: cs,l,h=>by
   unfold intsQ at h
   split at h
   · rename_i e; cases e
   · rename_i n k e
     injection e with e1 e2
     subst e1 e2
     rw [Option.map_eq_some_iff] at h
     obtain ⟨l',h1,h2⟩:=h
     subst h2
     rw [intsQ_form h1]
     rfl
   · cases h
def g173 (args:List Value) (H:Heap) (n:Nat):R:=match args with
 | [.agg a]=>match intsQ a.toList with
   | some hd=>if hd.length=8 then some (iv (hdE hd),H,n) else none
   | none=>none
 | _=>none
theorem ok173:EntOk Tryz.prog (173,g173):=by
 intro args H n v H' n' h
 simp only [g173] at h
 split at h
 · rename_i a
   split at h
   · rename_i hd hq
     split at h
     · rename_i h8
       injection h with h; injection h with e1 e2; injection e2 with e2 e3; subst e1 e2 e3
       obtain ⟨cs⟩:=a
       have hs:cs=hd.map iv:=intsQ_form hq
       subst hs
       exact w173 h8
     · cases h
   · cases h
 · cases h
def trcE (t:Trc):Int:=if hdE t.hd=0 then if t.hole=true ∧ 0 < t.smp.length then 24 else Gn.chkV 1024 t.smp else hdE t.hd
set_option maxHeartbeats 600000 in
set_option maxRecDepth 50000 in
theorem w137 {H:Heap} {n:Nat} {cs:List Value} {t:Trc} (ht:decT H cs=some t):AC Tryz.prog 137 [.agg ⟨cs⟩] H n (iv (trcE t)) H n:=by
 refine AC.given fun hold hsc hgn=>AC.tidied (B:=[]) (by simp) ?_
 replace ht:decT (tidy n H) cs=some t:=decT_tidy _ _ _ _ (fun k b h=>(hold k b h).1) ht
 have hr:=recT_ok (P:=Tryz.prog) (l:=[(173,g173),(174,Gn.gErr (Gn.chkV 1024))]) (by simp [ok173,Gn.ok174])
 obtain ⟨q,rfl,h8,hq⟩:=decT_form ht
 obtain ⟨X,hX⟩:∃ X,(n,Blk.cells (t.hd.map iv ++ [.bool t.hole,q]) 144) :: tidy n H=X:=⟨_,rfl⟩
 have hS:Sub (tidy n H) X:=by rw [← hX]; exact Sub.cons (by simp) (Sub.refl _)
 have hb:hget X n=some (.cells (t.hd.map iv ++ [.bool t.hole,q]) 144):=by rw [← hX,hget_cons,if_pos rfl]
 have hlen:(t.hd.map iv ++ [Value.bool t.hole,q]).length=10:=by rw [List.length_append,List.length_map,h8]; rfl
 have hc8:cellA X n 8=some (.bool t.hole):=by
   rw [cellA_eq,hb]
   show (t.hd.map iv ++ [Value.bool t.hole,q])[8]? = _
   rw [List.getElem?_append_right (by rw [List.length_map]; omega),List.length_map,h8]
   rfl
 have hc9:cellA X n 9=some q:=by
   rw [cellA_eq,hb]
   show (t.hd.map iv ++ [Value.bool t.hole,q])[9]? = _
   rw [List.getElem?_append_right (by rw [List.length_map]; omega),List.length_map,h8]
   rfl
 have hcs8:cellsA X n 0 8=some (t.hd.map iv):=by
   rw [cellsA_eq,hb]
   simp only [Option.bind_some,cellsB]
   rw [if_pos (by rw [hlen]; omega),List.drop_zero,List.take_append_of_le_length (by rw [List.length_map]; omega),List.take_of_length_le (by rw [List.length_map]; omega)]
 have hld:=load142 hcs8
 have hg:∀ m,g173 [.agg ⟨t.hd.map iv⟩] X m=some (iv (hdE t.hd),X,m):=fun m=>by
   show (match intsQ (t.hd.map iv) with | some hd=>if hd.length=8 then some (iv (hdE hd),X,m) else none | none=>none)=_
   rw [intsQ_map]
   exact if_pos h8
 have hqX:reaV X q=some t.smp:=listV_mono decR_mono hS hq
 have hg2:∀ m,Gn.gErr (Gn.chkV 1024) [q] X m=some (iv (Gn.chkV 1024 t.smp),X,m):=fun m=>by
   show (Gn.fltV X q).map _=_
   rw [flt_same,hqX]
   rfl
 obtain ⟨oq,cq,hqe,hlq,_,_⟩:=reaV_form hq
 obtain ⟨e,he⟩:∃ e,hdE t.hd=e:=⟨_,rfl⟩
 have hE:trcE t=if e=0 then if t.hole=true ∧ 0 < t.smp.length then 24 else Gn.chkV 1024 t.smp else e:=by rw [trcE,he]
 rw [he] at hg
 refine AC.pure Tryz.func137 rfl (by kernel_rfl) rfl [1,2,3] rfl ?_
 refine E.seq (E.reg hr (by simp; rfl) ?_)
 rw [hX]
 refine E.seq (E.seq (E.reg hr (by simp [-loadA,hld,hg]; rfl) ?_))
 refine E.seq (E.reg hr (by simp; rfl) ?_)
 by_cases hz:e=0
 · rw [if_pos hz] at hE
   refine E.cond (t:=false) (by simp [hz]) (fun h=>by cases h) (fun _=>?_)
   refine E.skip (E.seq ?_)
   refine E.seq ?_
   by_cases hh:t.hole=true
   · by_cases hp:0 < t.smp.length
     · have hpI:(0:Int) < t.smp.length:=by omega
       rw [if_pos ⟨hh,hp⟩] at hE
       refine E.reg hr (by simp [-cellA,hc8,hc9,hh,hqe,hp]; rfl) ?_
       refine E.cond (t:=true) (by simp) (fun _=>?_) (fun h=>by cases h)
       refine E.seq (E.reg hr (by simp; rfl) ?_)
       refine E.ret ?_
       exact pureK.ret rfl rfl (by rw [hE]; simp) hS
     · have hpI:¬ (0:Int) < t.smp.length:=by omega
       rw [if_neg fun h=>hp h.2] at hE
       refine E.reg hr (by simp [-cellA,hc8,hc9,hh,hqe,hp]; rfl) ?_
       refine E.cond (t:=false) (by simp) (fun h=>by cases h) (fun _=>?_)
       refine E.skip (E.seq (E.reg hr (by simp [-cellA,hc9,hg2]; rfl) ?_))
       refine E.ret ?_
       exact pureK.ret rfl rfl (by rw [hE]; simp) hS
   · have hf:t.hole=false:=by simpa using hh
     rw [if_neg fun h=>hh h.1] at hE
     refine E.reg hr (by simp [-cellA,hc8,hf]; rfl) ?_
     refine E.cond (t:=false) (by simp) (fun h=>by cases h) (fun _=>?_)
     refine E.skip (E.seq (E.reg hr (by simp [-cellA,hc9,hg2]; rfl) ?_))
     refine E.ret ?_
     exact pureK.ret rfl rfl (by rw [hE]; simp) hS
 · rw [if_neg hz] at hE
   refine E.cond (t:=true) (by simp [hz]) (fun _=>?_) (fun h=>by cases h)
   refine E.seq (E.reg hr (by simp; rfl) ?_)
   refine E.ret ?_
   exact pureK.ret rfl rfl (by rw [hE]; simp) hS
end Go.Proofs.YtkongcnmkiihjaaGreatDoor
namespace Go.Ab
open Go
theorem E.range {P:Program} {n0:Nat} {r:Rec} {m:Nat} (hr:RecOk P r m) {ro:Option Nat} {f:Operand} {ps:Array Tmp} {x y:Code} {st st':St} {e:Ex} {K:Ex → St → Prop} (h:rangeF P r ro f ps x y st=some (e,st')) (k:K e st'):E P n0 ro (.rangeFunc f ps x y) st K:=.at (rangeF_ok hr h) k
theorem AC.same {P : Program} {f : FuncId} {fn : Func} {c : Code} {args : List Value} {H : Heap} {n : Nat} {v : Value} (hf : P.funcs[f]? = some fn) (hb : fn.body = some c) (he : enterable P f = true) (hlen : Nat.ble args.length fn.ntmps = true) (vs : List Nat) (hv : sc (· < n) v)
   (hold:∀ k b,hget H k=some b → k < n) (h:E P n none c { fr:=argsFr args 0,sz:=fn.ntmps,H,n,marks:=[],vs } (pureK P fn H v)):AC P f args H n v H n:=by
 cases ha:af v with
 | true=>exact AC.pure hf hb he hlen vs ha h
 | false=>exact AC.wroteV hf hb he hlen vs ha hv (fun k b hk=>⟨hold k b hk,.inl hk⟩) h
end Go.Ab
