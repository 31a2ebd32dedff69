/- Joined: M1, M2, I1, I2, I3, I4, I5, I6, I7, I8, I9, I10, I11, I12, I13, I14, I16, I17, I18, I19, I20, I21, I22, I27, N1, N2, I29, I30, I23, I24, I25, I28, RP0, I31, I33, I35, I36. -/
import Derived.Test.YtfaglgoanmcifaaGreatK4
import Derived.Test.YtfaglgoanmcifaaGreatK3
set_option linter.unusedVariables false
set_option linter.unusedSimpArgs false
set_option maxRecDepth 100000
set_option maxHeartbeats 16000000
namespace Go.Proofs.YtfaglgoanmcifaaGreat
open Go.RowKit
def keysE {α:Type} (l:List (Prefix × α)):List Prefix:=l.map fun e=>e.1
def getE {α:Type} (l:List (Prefix × α)) (p:Prefix):Option α:=(l.find? fun e=>decide (e.1=p)).map fun e=>e.2
def putE {α:Type} (l:List (Prefix × α)) (p:Prefix) (a:α):List (Prefix × α):=if p∈keysE l then l.map (fun e=>if e.1=p then(p,a)else e)else l ++ [(p,a)]
def delE {α:Type} (l:List (Prefix × α)) (p:Prefix):List (Prefix × α):=l.filter fun e=>!decide (e.1=p)
def NodE {α:Type} (l:List (Prefix × α)):Prop:=(keysE l).Nodup
def RisE {α:Type} (l:List (Prefix × α)):Prop:=(keysE l).Pairwise fun x y=>pkey x < pkey y
theorem RisE.nod {α:Type} {l:List (Prefix × α)} (h:RisE l):NodE l:=nodup_of_strict h
theorem getE_mem {α:Type} {l:List (Prefix × α)} {p:Prefix} {a:α} (h:getE l p=some a):(p,a)∈l:=by
 simp only[getE,Option.map_eq_some_iff]at h
 obtain⟨e,he,rfl⟩:=h
 have h1:=List.find?_some he
 have h1:e.1=p:=by simpa using h1
 subst h1
 exact List.mem_of_find?_eq_some he
theorem mem_getE {α:Type} {p:Prefix} {a:α}:∀{l:List (Prefix × α)},NodE l→(p,a)∈l→getE l p=some a
 | e :: l,hn,h=>by
  simp only[NodE,keysE,List.map_cons,List.nodup_cons]at hn
  by_cases he:e.1=p
  ·have:e=(p,a):=by
    rcases List.mem_cons.1 h with h|h
    ·exact h.symm
    ·exact absurd (List.mem_map.2 ⟨_,h,rfl⟩) (he▸hn.1)
   subst this
   simp[getE]
  ·have h:(p,a)∈l:=by
    rcases List.mem_cons.1 h with h|h
    ·exact absurd (h▸rfl) he
    ·exact h
   have ih:=mem_getE (l:=l) hn.2 h
   simp only[getE,List.find?_cons,decide_eq_false he]at ih ⊢
   exact ih
theorem getE_iff {α:Type} {l:List (Prefix × α)} (hn:NodE l) {p:Prefix} {a:α}:getE l p=some a↔(p,a)∈l:=⟨getE_mem,mem_getE hn⟩
theorem getE_none {α:Type} {l:List (Prefix × α)} {p:Prefix}:getE l p=none↔p ∉ keysE l:=by
 simp only[getE,Option.map_eq_none_iff,List.find?_eq_none,keysE,List.mem_map,not_exists,not_and,decide_eq_true_eq]
theorem getE_key {α:Type} {l:List (Prefix × α)} {p:Prefix} {a:α} (h:getE l p=some a):p∈keysE l:=List.mem_map.2 ⟨_,getE_mem h,rfl⟩
theorem key_getE {α:Type} {l:List (Prefix × α)} {p:Prefix} (h:p∈keysE l):∃a,getE l p=some a:=by
 cases hg:getE l p with
 | some a=>exact⟨a,rfl⟩
 | none=>exact absurd h (getE_none.1 hg)
theorem NodE.nodup {α:Type} {l:List (Prefix × α)} (h:NodE l):l.Nodup:=by
 unfold NodE keysE at h
 exact List.Pairwise.imp (fun h e=>h (by rw[e])) (List.pairwise_map.1 h)
theorem perm_getE {α:Type} {l l':List (Prefix × α)} (hn:NodE l) (hn':NodE l') (h:∀p,getE l p=getE l' p):l.Perm l':=by
 rw[List.perm_ext_iff_of_nodup hn.nodup hn'.nodup]
 rintro ⟨p,a⟩
 rw[← getE_iff hn,← getE_iff hn',h]
theorem NodE.perm {α:Type} {l l':List (Prefix × α)} (hn:NodE l) (h:l.Perm l'):NodE l':=(h.map _).nodup_iff.1 hn
theorem getE_perm {α:Type} {l l':List (Prefix × α)} (hn:NodE l) (h:l.Perm l') (p:Prefix):getE l p=getE l' p:=by
 have hn':=hn.perm h
 cases hg:getE l p with
 | some a=>exact((getE_iff hn').2 (h.mem_iff.1 ((getE_iff hn).1 hg))).symm
 | none=>
  cases hg':getE l' p with
  | none=>rfl
  | some a=>
   rw[(getE_iff hn).2 (h.mem_iff.2 ((getE_iff hn').1 hg'))]at hg
   cases hg
theorem strict_eq {a b:List Prefix} (h1:a.Pairwise fun x y=>pkey x < pkey y) (h2:b.Pairwise fun x y=>pkey x < pkey y) (h:∀p,p∈a↔p∈b):a=b:=
 sorted_eq ((List.perm_ext_iff_of_nodup (nodup_of_strict h1) (nodup_of_strict h2)).2 h) (h1.imp Nat.le_of_lt) (h2.imp Nat.le_of_lt)
theorem keys_put_in {α:Type} {l:List (Prefix × α)} {p:Prefix} {a:α} (h:p∈keysE l):keysE (putE l p a)=keysE l:=by
 unfold putE
 rw[if_pos h]
 simp only[keysE,List.map_map]
 apply List.map_congr_left
 intro e he
 simp only[Function.comp]
 split
 ·rename_i h;exact h.symm
 ·rfl
theorem keys_put_new {α:Type} {l:List (Prefix × α)} {p:Prefix} {a:α} (h:p ∉ keysE l):keysE (putE l p a)=keysE l ++ [p]:=by
 unfold putE
 rw[if_neg h]
 simp[keysE]
theorem nod_put {α:Type} {l:List (Prefix × α)} {p:Prefix} {a:α} (hn:NodE l):NodE (putE l p a):=by
 unfold NodE
 by_cases h:p∈keysE l
 ·rw[keys_put_in h];exact hn
 ·rw[keys_put_new h,List.nodup_append]
  refine⟨hn,by simp,?_⟩
  intro x hx y hy
  simp at hy
  subst hy
  exact fun e=>h (e▸hx)
theorem getE_map_put {α:Type} {p q:Prefix} {a:α}:∀{l:List (Prefix × α)},p∈keysE l→getE (l.map fun e=>if e.1=p then(p,a)else e) q=if q=p then some a else getE l q
 | [],h=>by simp[keysE]at h
 | e :: l,h=>by
  by_cases he:e.1=p
  ·by_cases hq:q=p
   ·subst hq
    simp[getE,he]
   ·have e2:getE (l.map fun e=>if e.1=p then(p,a)else e) q=getE l q:=by
     by_cases h2:p∈keysE l
     ·rw[getE_map_put h2,if_neg hq]
     ·congr 1
      conv=>rhs;rw[← List.map_id l]
      apply List.map_congr_left
      intro x hx
      rw[if_neg fun e=>h2 (List.mem_map.2 ⟨x,hx,e⟩)]
      rfl
    rw[if_neg hq]
    simp only[getE,List.map_cons,if_pos he,List.find?_cons]at e2 ⊢
    rw[decide_eq_false (fun e=>hq e.symm),he,decide_eq_false (fun e=>hq e.symm)]
    exact e2
  ·have h2:p∈keysE l:=by
    simp only[keysE,List.map_cons,List.mem_cons]at h
    rcases h with h|h
    ·exact absurd h.symm he
    ·exact h
   have ih:=getE_map_put (q:=q) (a:=a) h2
   simp only[getE,List.map_cons,if_neg he,List.find?_cons]at ih ⊢
   by_cases hq:e.1=q
   ·rw[decide_eq_true hq]
    simp only[Option.map_some]
    rw[if_neg (fun e2=>he (hq.trans e2))]
   ·rw[decide_eq_false hq]
    exact ih
theorem getE_put {α:Type} {l:List (Prefix × α)} {p q:Prefix} {a:α}:getE (putE l p a) q=if q=p then some a else getE l q:=by
 unfold putE
 by_cases h:p∈keysE l
 ·rw[if_pos h,getE_map_put h]
 ·rw[if_neg h]
  have hnone:=getE_none.2 h
  simp only[getE,List.find?_append,Option.map_eq_none_iff]at hnone ⊢
  by_cases hq:q=p
  ·subst hq
   rw[hnone]
   simp
  ·rw[if_neg hq]
   have:List.find? (fun e=>decide (e.1=q)) [(p,a)]=none:=by simp[Ne.symm hq]
   rw[this,Option.or_none]
theorem keys_del {α:Type} {l:List (Prefix × α)} {p q:Prefix}:q∈keysE (delE l p)↔q ≠ p∧q∈keysE l:=by
 simp only[keysE,delE,List.mem_map,List.mem_filter,Bool.not_eq_true',decide_eq_false_iff_not]
 constructor
 ·rintro ⟨e,⟨h1,h2⟩,rfl⟩
  exact⟨h2,e,h1,rfl⟩
 ·rintro ⟨h1,e,h2,rfl⟩
  exact⟨e,⟨h2,h1⟩,rfl⟩
theorem nod_filter {α:Type} {l:List (Prefix × α)} (f:Prefix × α→Bool) (hn:NodE l):NodE (l.filter f):=List.Sublist.nodup (List.Sublist.map _ List.filter_sublist) hn
theorem ris_filter {α:Type} {l:List (Prefix × α)} (f:Prefix × α→Bool) (hn:RisE l):RisE (l.filter f):=List.Pairwise.sublist (List.Sublist.map _ List.filter_sublist) hn
theorem nod_del {α:Type} {l:List (Prefix × α)} {p:Prefix} (hn:NodE l):NodE (delE l p):=nod_filter _ hn
theorem getE_filter {α:Type} {l:List (Prefix × α)} (f:Prefix→Bool) (q:Prefix):getE (l.filter fun e=>f e.1) q=if f q then getE l q else none:=by
 induction l with
 | nil=>simp[getE]
 | cons e l ih=>
  simp only[getE]at ih ⊢
  rw[List.filter_cons]
  by_cases he:e.1=q
  ·subst he
   cases hf:f e.1 with
   | true=>simp
   | false=>simp only[hf,Bool.false_eq_true,if_false]at ih ⊢;exact ih
  ·cases hf:f e.1 with
   | true=>simp only[if_true,List.find?_cons,decide_eq_false he];exact ih
   | false=>simp only[Bool.false_eq_true,if_false,List.find?_cons,decide_eq_false he];exact ih
theorem getE_del {α:Type} {l:List (Prefix × α)} {p q:Prefix}:getE (delE l p) q=if q=p then none else getE l q:=by
 have h:=getE_filter (l:=l) (fun x=>!decide (x=p)) q
 simp only[Bool.not_eq_true',decide_eq_false_iff_not]at h
 rw[delE,h]
 by_cases hq:q=p<;>simp[hq]
structure Change where
 pfx:Prefix
 has:Bool
 attrs:Attrs
deriving DecidableEq
def chg (z:Attrs) (f g:Prefix→Option Attrs) (p:Prefix):Option Change:=if f p=g p then none else some ⟨p,(g p).isSome,(g p).getD z⟩
theorem filterMap_filter_some {α β:Type} (h:α→Option β):∀l:List α,l.filterMap h=(l.filter fun x=>(h x).isSome).filterMap h
 | []=>rfl
 | a :: l=>by
  rw[List.filterMap_cons,List.filter_cons]
  cases ha:h a with
  | none=>simp only[Option.isSome_none,Bool.false_eq_true,if_false];exact filterMap_filter_some h l
  | some b=>simp only[Option.isSome_some,if_true,List.filterMap_cons,ha];rw[filterMap_filter_some h l]
theorem chg_unique {z:Attrs} {f g:Prefix→Option Attrs} {a b:List Prefix} (h1:a.Pairwise fun x y=>pkey x < pkey y) (h2:b.Pairwise fun x y=>pkey x < pkey y)
  (h:∀p,f p ≠ g p→p∈a∧p∈b):a.filterMap (chg z f g)=b.filterMap (chg z f g):=by
 rw[filterMap_filter_some,filterMap_filter_some (l:=b)]
 congr 1
 refine strict_eq (h1.sublist List.filter_sublist) (h2.sublist List.filter_sublist) fun p=>?_
 have key:(chg z f g p).isSome=true→p∈a∧p∈b:=fun hp=>h p fun e=>by rw[chg,if_pos e]at hp;simp at hp
 simp only[List.mem_filter]
 exact⟨fun⟨_,hp⟩=>⟨(key hp).2,hp⟩,fun⟨_,hp⟩=>⟨(key hp).1,hp⟩⟩
def withoutE {α:Type} (l:List (Prefix × α)) (gone:List Prefix):List (Prefix × α):=l.filter fun e=>!decide (e.1∈gone)
def stepX {α:Type} (x:Prefix × α) (s:List (Prefix × α) × Bool) (y:Prefix × α):List (Prefix × α) × Bool:=if s.2=false∧0 < cmpP y.1 x.1 then(s.1 ++ [x]++ [y],true)else(s.1 ++ [y],s.2)
def foldX {α:Type} (l:List (Prefix × α)) (x:Prefix × α):List (Prefix × α) × Bool:=l.foldl (stepX x) ([],false)
def withE {α:Type} (l:List (Prefix × α)) (x:Prefix × α):List (Prefix × α):=if(foldX l x).2 then(foldX l x).1 else(foldX l x).1 ++ [x]
def insE {α:Type} (x:Prefix × α):List (Prefix × α)→List (Prefix × α)
 | []=>[x]
 | y :: l=>if 0 < cmpP y.1 x.1 then x :: y :: l else y :: insE x l
theorem foldX_true {α:Type} (x:Prefix × α):∀(l acc:List (Prefix × α)),l.foldl (stepX x) (acc,true)=(acc ++ l,true)
 | [],acc=>by simp
 | y :: l,acc=>by
  rw[List.foldl_cons,stepX,if_neg (by simp),foldX_true x l]
  simp
theorem foldX_ins {α:Type} (x:Prefix × α):∀(l acc:List (Prefix × α)),(if(l.foldl (stepX x) (acc,false)).2 then(l.foldl (stepX x) (acc,false)).1 else(l.foldl (stepX x) (acc,false)).1 ++ [x])=acc ++ insE x l
 | [],acc=>by simp[insE]
 | y :: l,acc=>by
  rw[insE]
  by_cases h:0 < cmpP y.1 x.1
  ·have e:stepX x (acc,false) y=(acc ++ [x]++ [y],true):=by rw[stepX,if_pos ⟨rfl,h⟩]
   simp only[List.foldl_cons,e,foldX_true,if_true,if_pos h]
   simp
  ·have e:stepX x (acc,false) y=(acc ++ [y],false):=by rw[stepX,if_neg (by simp[h])]
   have ih:=foldX_ins x l (acc ++ [y])
   simp only[List.foldl_cons,e,if_neg h]
   rw[ih]
   simp
theorem withE_ins {α:Type} (l:List (Prefix × α)) (x:Prefix × α):withE l x=insE x l:=by
 have:=foldX_ins x l []
 rw[List.nil_append]at this
 exact this
theorem insE_perm {α:Type} (x:Prefix × α):∀l:List (Prefix × α),(insE x l).Perm (x :: l)
 | []=>.refl _
 | y :: l=>by
  rw[insE]
  split
  ·exact .refl _
  ·exact((insE_perm x l).cons y).trans (.swap x y l)
theorem insE_ris {α:Type} {x:Prefix × α}:∀{l:List (Prefix × α)},RisE l→x.1 ∉ keysE l→RisE (insE x l)
 | [],_,_=>by simp[RisE,keysE,insE]
 | y :: l,h,hx=>by
  have h1:(∀z∈keysE l,pkey y.1 < pkey z)∧RisE l:=by
   simp only[RisE,keysE,List.map_cons,List.pairwise_cons]at h
   exact h
  simp only[keysE,List.map_cons,List.mem_cons,not_or]at hx
  have hne:pkey x.1 ≠ pkey y.1:=fun e=>hx.1 (pkey_inj e)
  rw[insE]
  split
  ·rename_i hc
   have hlt:=(cmpP_gt _ _).1 hc
   simp only[RisE,keysE,List.map_cons,List.pairwise_cons,List.mem_cons]
   refine⟨?_,⟨h1.1,h1.2⟩⟩
   rintro z (rfl|hz)
   ·exact hlt
   ·exact Nat.lt_trans hlt (h1.1 z hz)
  ·rename_i hc
   have hlt:pkey y.1 < pkey x.1:=by
    have:¬ pkey x.1 < pkey y.1:=fun h=>hc ((cmpP_gt _ _).2 h)
    omega
   have ih:=insE_ris h1.2 hx.2
   simp only[RisE,keysE,List.map_cons,List.pairwise_cons]
   refine⟨fun z hz=>?_,ih⟩
   have hm:z∈keysE (x :: l):=((insE_perm x l).map fun e:Prefix × α=>e.1).mem_iff.1 hz
   simp only[keysE,List.map_cons,List.mem_cons]at hm
   rcases hm with rfl|hm
   ·exact hlt
   ·exact h1.1 z hm
theorem getE_cons {α:Type} {x:Prefix × α} {l:List (Prefix × α)} {q:Prefix}:getE (x :: l) q=if q=x.1 then some x.2 else getE l q:=by
 simp only[getE,List.find?_cons]
 by_cases h:q=x.1
 ·subst h;simp
 ·rw[if_neg h,decide_eq_false (fun e=>h e.symm)]
theorem getE_ins {α:Type} {x:Prefix × α} {l:List (Prefix × α)} (hr:RisE l) (hx:x.1 ∉ keysE l) (q:Prefix):getE (insE x l) q=if q=x.1 then some x.2 else getE l q:=by
 rw[getE_perm (insE_ris hr hx).nod (insE_perm x l),getE_cons]
def putsM {α:Type} (l:List (Prefix × α)) (new:List Prefix) (a:α):List (Prefix × α):=new.foldl (fun l p=>putE l p a) l
def delsM {α:Type} (l:List (Prefix × α)) (gone:List Prefix):List (Prefix × α):=gone.foldl delE l
def takeM {α:Type} (l:List (Prefix × α)) (gone new:List Prefix) (a:α):List (Prefix × α):=putsM (delsM l gone) new a
def takeS {α:Type} (l:List (Prefix × α)) (gone new:List Prefix) (a:α):List (Prefix × α):=new.foldl (fun l p=>withE l (p,a)) (withoutE (withoutE l gone) new)
theorem nod_dels {α:Type}:∀{gone:List Prefix} {l:List (Prefix × α)},NodE l→NodE (delsM l gone)
 | [],_,h=>h
 | p :: gone,_,h=>nod_dels (gone:=gone) (nod_del h)
theorem getE_dels {α:Type}:∀{gone:List Prefix} {l:List (Prefix × α)} {q:Prefix},getE (delsM l gone) q=if q∈gone then none else getE l q
 | [],l,q=>by simp[delsM]
 | p :: gone,l,q=>by
  show getE (delsM (delE l p) gone) q=_
  rw[getE_dels,getE_del]
  by_cases h1:q∈gone<;>by_cases h2:q=p<;>simp[h1,h2]
theorem nod_puts {α:Type} {a:α}:∀{new:List Prefix} {l:List (Prefix × α)},NodE l→NodE (putsM l new a)
 | [],_,h=>h
 | p :: new,_,h=>nod_puts (new:=new) (nod_put h)
theorem getE_puts {α:Type} {a:α}:∀{new:List Prefix} {l:List (Prefix × α)} {q:Prefix},getE (putsM l new a) q=if q∈new then some a else getE l q
 | [],l,q=>by simp[putsM]
 | p :: new,l,q=>by
  show getE (putsM (putE l p a) new a) q=_
  rw[getE_puts,getE_put]
  by_cases h1:q∈new<;>by_cases h2:q=p<;>simp[h1,h2]
theorem nod_take {α:Type} {l:List (Prefix × α)} {gone new:List Prefix} {a:α} (h:NodE l):NodE (takeM l gone new a):=nod_puts (nod_dels h)
theorem getE_take {α:Type} {l:List (Prefix × α)} {gone new:List Prefix} {a:α} {q:Prefix}:getE (takeM l gone new a) q=if q∈new then some a else if q∈gone then none else getE l q:=by
 rw[takeM,getE_puts,getE_dels]
theorem getE_without {α:Type} {l:List (Prefix × α)} {gone:List Prefix} {q:Prefix}:getE (withoutE l gone) q=if q∈gone then none else getE l q:=by
 have h:=getE_filter (l:=l) (fun x=>!decide (x∈gone)) q
 simp only[Bool.not_eq_true',decide_eq_false_iff_not]at h
 rw[withoutE,h]
 by_cases hq:q∈gone<;>simp[hq]
theorem ris_without {α:Type} {l:List (Prefix × α)} {gone:List Prefix} (h:RisE l):RisE (withoutE l gone):=ris_filter _ h
theorem withs_ok {α:Type} {a:α}:∀{new:List Prefix} {l:List (Prefix × α)},RisE l→new.Nodup→(∀p∈new,p ∉ keysE l) →
  RisE (new.foldl (fun l p=>withE l (p,a)) l)∧∀q,getE (new.foldl (fun l p=>withE l (p,a)) l) q=if q∈new then some a else getE l q
 | [],l,h,_,_=>⟨h,fun q=>by simp⟩
 | p :: new,l,h,hn,hk=>by
  have hp:=hk p (by simp)
  rw[List.nodup_cons]at hn
  have h1:RisE (withE l (p,a)):=by rw[withE_ins];exact insE_ris h hp
  have hg:∀q,getE (withE l (p,a)) q=if q=p then some a else getE l q:=fun q=>by rw[withE_ins];exact getE_ins h hp q
  have hk2:∀q∈new,q ∉ keysE (withE l (p,a)):=fun q hq=>by
   rw[← getE_none,hg,if_neg (fun e=>hn.1 (by rw[← e];exact hq)),getE_none]
   exact hk q (by simp[hq])
  obtain⟨r1,r2⟩:=withs_ok (a:=a) h1 hn.2 hk2
  refine⟨r1,fun q=>?_⟩
  rw[List.foldl_cons,r2,hg]
  by_cases h1:q∈new<;>by_cases h2:q=p<;>simp[h1,h2]
theorem takeS_ok {α:Type} {l:List (Prefix × α)} {gone new:List Prefix} {a:α} (h:RisE l) (hn:new.Nodup) :
  RisE (takeS l gone new a)∧∀q,getE (takeS l gone new a) q=if q∈new then some a else if q∈gone then none else getE l q:=by
 have h1:RisE (withoutE (withoutE l gone) new):=ris_without (ris_without h)
 have hk:∀p∈new,p ∉ keysE (withoutE (withoutE l gone) new):=fun p hp=>by rw[← getE_none,getE_without,if_pos hp]
 obtain⟨r1,r2⟩:=withs_ok (a:=a) h1 hn hk
 refine⟨r1,fun q=>?_⟩
 rw[takeS,r2,getE_without,getE_without]
 by_cases h1:q∈new<;>simp[h1]
theorem take_perm {α:Type} {l m:List (Prefix × α)} {gone new:List Prefix} {a:α} (h:RisE l) (hp:m.Perm l) (hn:new.Nodup):(takeM m gone new a).Perm (takeS l gone new a):=by
 obtain⟨r1,r2⟩:=takeS_ok (gone:=gone) (a:=a) h hn
 have hm:=h.nod.perm hp.symm
 exact perm_getE (nod_take hm) r1.nod fun p=>by rw[getE_take,r2,getE_perm hm hp]
def cntE {α β:Type} (c:Prefix→α→Option β) (l:List (Prefix × α)):List (Prefix × β):=l.filterMap fun e=>(c e.1 e.2).map fun b=>(e.1,b)
theorem keys_cnt {α β:Type} (c:Prefix→α→Option β):∀l:List (Prefix × α),(keysE (cntE c l)).Sublist (keysE l)
 | []=>.refl _
 | e :: l=>by
  simp only[cntE,List.filterMap_cons]
  cases h:c e.1 e.2 with
  | none=>exact(keys_cnt c l).trans (List.sublist_cons_self _ _)
  | some b=>exact(keys_cnt c l).cons_cons _
theorem nod_cnt {α β:Type} {c:Prefix→α→Option β} {l:List (Prefix × α)} (h:NodE l):NodE (cntE c l):=List.Sublist.nodup (keys_cnt c l) h
theorem perm_cnt {α β:Type} {c:Prefix→α→Option β} {l l':List (Prefix × α)} (h:l.Perm l'):(cntE c l).Perm (cntE c l'):=h.filterMap _
theorem getE_cnt {α β:Type} {c:Prefix→α→Option β} {l:List (Prefix × α)} (hn:NodE l) (q:Prefix):getE (cntE c l) q=(getE l q).bind (c q):=by
 have hn':=nod_cnt (c:=c) hn
 cases h:getE (cntE c l) q with
 | some b=>
  have hm:=(getE_iff hn').1 h
  simp only[cntE,List.mem_filterMap,Option.map_eq_some_iff]at hm
  obtain⟨e,he,b',hb,e2⟩:=hm
  cases e2
  rw[(getE_iff hn).2 (show(e.1,e.2)∈l from he)]
  exact hb.symm
 | none=>
  cases h2:getE l q with
  | none=>rfl
  | some a=>
   cases h3:c q a with
   | none=>simp[h3]
   | some b=>
    exfalso
    have hm:(q,b)∈cntE c l:=List.mem_filterMap.2 ⟨(q,a),getE_mem h2,by simp[h3]⟩
    rw[mem_getE hn' hm]at h
    cases h
section
open Go.Proofs.Tryz (prog)
attribute [local irreducible] CallV RoundV aggK
structure Peer where
 sys:UInt32
 id:UInt32
 addr:UInt32
 inner:Bool
deriving DecidableEq
def cellsPe (p:Peer):List V:=[cW p.sys,cW p.id,cW p.addr,.bool p.inner]
def encPe (p:Peer):V:=.agg (cellsPe p)
def esA (m:List (Prefix × Attrs)):List (V × V):=m.map fun e=>(encP e.1,encA false e.2)
def cellsIn (own:UInt32) (pe:Peer) (pol:Policy) (m:List (Prefix × Attrs)):List V:=
 [cW pe.sys,cW pe.id,cW pe.addr,.bool pe.inner,cW own,encRus false pol.rules,.bool pol.els,.imap false (esA m)]
theorem cellsPe_all (p:Peer):∀v∈cellsPe p,Free v∧Cold v∧Fresh v:=by
 intro v hv
 simp only[cellsPe,List.mem_cons,List.not_mem_nil,or_false]at hv
 rcases hv with rfl|rfl|rfl|rfl<;>first|exact⟨.int,.int,.int⟩|exact⟨.bool,.bool,.bool⟩
theorem encPe_free (p:Peer):Free (encPe p):=.agg fun v hv=>(cellsPe_all p v hv).1
theorem esA_free (m:List (Prefix × Attrs)):∀kv∈esA m,Free kv.1∧Free kv.2:=by
 intro kv h
 obtain⟨e,_,rfl⟩:=List.mem_map.1 h
 exact⟨encP_free _,encA_free _ _⟩
theorem esA_keys (m:List (Prefix × Attrs)):KeysV tab 53 (esA m):=by
 intro kv h
 obtain⟨e,_,rfl⟩:=List.mem_map.1 h
 exact keyP _
theorem imapA_free (m:List (Prefix × Attrs)):Free (.imap false (esA m)):=.imap fun kv h=>esA_free m kv h
theorem cellsIn_free (own:UInt32) (pe:Peer) (pol:Policy) (m:List (Prefix × Attrs)):∀v∈cellsIn own pe pol m,Free v:=by
 intro v hv
 simp only[cellsIn,List.mem_cons,List.not_mem_nil,or_false]at hv
 rcases hv with rfl|rfl|rfl|rfl|rfl|rfl|rfl|rfl<;>first|exact .int|exact .bool|exact .sl (rowsRu_free _)|exact imapA_free _
instance {p}:FreeI (encPe p):=⟨⟨encPe_free p⟩⟩
instance {m}:FreeI (.imap false (esA m)):=⟨⟨imapA_free m⟩⟩
instance {own pe pol m}:FreeLI (cellsIn own pe pol m):=⟨⟨cellsIn_free own pe pol m⟩⟩
theorem clone_evo {G:Gh} {w:World} (o:Obj) (hr:HR G [] 0 w):Evo 0 G w ⟨fun b=>if b=0 then some w.heap.size else none,G.amb,G.B⟩ (w.alloc o):=by
 have hB:Below w.heap.size w (w.alloc o):=(Below.refl _ w).alloc (Nat.le_refl _) _
 refine⟨hB.os,hB.tape,hB.output,hB.size,rfl,fun c h=>h,fun c h=>hB.block c (hr.amb_lt c h),fun c m h=>?_,fun b c h=>by omega,fun c h _=>hB.block c h,fun c h _=>.inl h,fun b c h hlt=>?_⟩
 ·have hlt:c < w.heap.size:=by
   unfold csz at h
   split at h
   ·rename_i e
    exact(Array.getElem?_eq_some_iff.1 e).1
   ·cases h
  unfold csz at h ⊢
  rw[hB.block c hlt]
  exact h
 ·simp only at h
  split at h
  ·cases h;omega
  ·cases h
theorem imap_out {G:Gh} {w:World} {fr:Bool} {es:List (V × V)} {u:Value} (h:vr G w (.imap fr es) u):∃(c:Nat) (arr:Array MapEntry) (clk:Nat),u=.map (some c)∧w.heap[c]? = some (.map arr clk)∧EntOk arr clk∧es.length=arr.toList.length ∧
  ∀(j:Nat) (kv:V × V) (e:MapEntry),es[j]? = some kv→arr.toList[j]? = some e→vr G w kv.1 e.key∧vr G w kv.2 e.val:=by
 cases h with
 | imap _ _ c arr clk hc hok hl hk hv=>exact⟨c,arr,clk,rfl,rd_map.1 hc.1,hok,hl,fun j kv e h1 h2=>⟨hk j kv e h1 h2,hv j kv e h1 h2⟩⟩
theorem alloc_at (w:World) (o:Obj):(w.alloc o).heap[w.heap.size]? = some o:=(MapKept.heap_alloc w _).1
theorem cloneA_own (fr:Bool) (es:List (V × V)):CallV prog 39 [.imap fr es] [] 0 (fun v h nx=>v=.mapp 0∧h=[(0,some (.map es))]∧nx=1):=by
 unfold CallV
 refine⟨⟨_,Go.Proofs.Tryz.func39⟩,fun G w us hr hv=>.inl ⟨⟨_,Go.Proofs.Tryz.func39,rfl,by decide⟩,?_⟩⟩
 obtain⟨u,rfl,hu⟩:=vrs_one hv
 obtain⟨c,arr,clk,rfl,hh,hok,hl,hkv⟩:=imap_out hu
 refine(AnyW.maps_Clone Go.Proofs.Tryz.cloneMap c arr clk w hh).mono ?_
 rintro e w' ⟨rfl,rfl⟩
 have he:=clone_evo (.map arr clk) hr
 have hB:Below w.heap.size w (w.alloc (.map arr clk)):=(Below.refl _ w).alloc (Nat.le_refl _) _
 have hd:∀b,0≤b→G.ι b=none:=fun b h=>hr.dom b h
 have hone:∀{b:Nat} {blk:Blk},hget [(0,some (Blk.map es))] b=some blk→b=0∧blk=.map es:=by
  intro b blk h
  rw[hget_cons]at h
  split at h
  ·rename_i e;exact⟨e.symm,(Option.some.inj h).symm⟩
  ·simp[hget]at h
 refine⟨_,_,_,_,⟨fun b=>if b=0 then some w.heap.size else none,G.amb,G.B⟩,rfl,⟨rfl,rfl,rfl⟩,.mapp 0 _ rfl,⟨fun c hc=>Nat.lt_of_lt_of_le (hr.amb_lt c hc) hB.size,Nat.le_trans hr.B_le hB.size,fun b hb=>if_neg (by omega),fun b blk h=>?_,fun b b' k k' c h h' _ _=>?_,fun b k c h hc ha=>?_,fun b c h=>?_,fun b k h=>?_,hr.gl.evo he⟩,he,by omega⟩
 ·obtain⟨rfl,rfl⟩:=hone h
  exact⟨_,arr,clk,rfl,alloc_at _ _,hok,hl,fun j kv e h1 h2=>⟨he.vr hd (hkv j kv e h1 h2).1,he.vr hd (hkv j kv e h1 h2).2⟩⟩
 ·rw[(hone h).1,(hone h').1]
 ·have:=hr.amb_lt c ha
  simp only at hc
  split at hc
  ·cases hc;omega
  ·cases hc
 ·simp only at h
  split at h
  ·cases h
   exact(Array.getElem?_eq_some_iff.1 (alloc_at w (.map arr clk))).1
  ·cases h
 ·rw[(hone h).1];omega
theorem cloneA_pure (fr fr':Bool) (es:List (V × V)):PCon prog 39 [.imap fr es] (.imap fr' es):=by
 refine pcon_calls (fn:=Go.Proofs.Tryz.f39) Go.Proofs.Tryz.func39 rfl (by decide) fun G w us hr hv=>?_
 obtain⟨u,rfl,hu⟩:=vrs_one hv
 obtain⟨c,arr,clk,rfl,hh,hok,hl,hkv⟩:=imap_out hu
 refine(AnyW.maps_Clone Go.Proofs.Tryz.cloneMap c arr clk w hh).mono ?_
 rintro e w' ⟨rfl,rfl⟩
 have he:=clone_evo (.map arr clk) hr
 have hd:∀b,0≤b→G.ι b=none:=fun b h=>hr.dom b h
 have hlt:=(Array.getElem?_eq_some_iff.1 (alloc_at w (.map arr clk))).1
 have hB:Below w.heap.size w (w.alloc (.map arr clk)):=(Below.refl _ w).alloc (Nat.le_refl _) _
 have up:∀{v:V} {x:Value},vr G w v x→vr (G.more w (w.alloc (.map arr clk))) (w.alloc (.map arr clk)) v x:=fun h=>
  VR.mono (fun b c h=>by rw[hr.dom b (Nat.zero_le _)]at h;cases h) he.csz (fun fr a u hi=>⟨(he.imm hi).1,.inl hi.2.1,(he.imm hi).2.2⟩) h
 refine⟨_,rfl,hB,.imap fr' es w.heap.size arr clk ⟨rd_map.2 (alloc_at _ _),.inr ⟨Nat.le_refl _,hlt⟩,fun _=>⟨hr.B_le,?_⟩,fun h=>by cases h⟩ hok hl (fun j kv e h1 h2=>up (hkv j kv e h1 h2).1) (fun j kv e h1 h2=>up (hkv j kv e h1 h2).2)⟩
 simp only[World.frozen?,mAddr]
 rw[alloc_at]
end
section
open Go.Proofs.Tryz (prog)
attribute [local irreducible] CallV RoundV aggK
def litW (x:UInt32):Lit:=.int .u32 (x.toNat:Int)
def litB (x:UInt8):Lit:=.int .u8 (x.toNat:Int)
def litsRu (r:Rule):List Lit:=[litW r.cover.addr,litB r.cover.len,litB r.least,litB r.most,.bool r.hasTag,litW r.tag,litW r.sys,.bool r.deny,.bool r.hasPref,.bool r.hasMed,.bool r.hasAdd,litW r.pref,litW r.med,litW r.add,litB r.times]
theorem litW_inj {x y:UInt32} (h:litW x=litW y):x=y:=by
 simp only[litW,Lit.int.injEq,true_and]at h
 exact UInt32.toNat_inj.1 (by omega)
theorem litB_inj {x y:UInt8} (h:litB x=litB y):x=y:=by
 simp only[litB,Lit.int.injEq,true_and]at h
 exact UInt8.toNat_inj.1 (by omega)
theorem litsRu_inj {r s:Rule}:litsRu r=litsRu s↔r=s:=by
 constructor
 ·intro h
  obtain⟨⟨a,b⟩,c,d,e,f,g,i,j,k,l,m,n,o,p⟩:=r
  obtain⟨⟨a',b'⟩,c',d',e',f',g',i',j',k',l',m',n',o',p'⟩:=s
  simp only[litsRu,List.cons.injEq,Lit.bool.injEq,and_true]at h
  obtain⟨h1,h2,h3,h4,h5,h6,h7,h8,h9,h10,h11,h12,h13,h14,h15⟩:=h
  rw[litW_inj h1,litB_inj h2,litB_inj h3,litB_inj h4,h5,litW_inj h6,litW_inj h7,h8,h9,h10,h11,litW_inj h12,litW_inj h13,litW_inj h14,litB_inj h15]
 ·exact fun h=>by rw[h]
theorem litRu (r:Rule) {K:List Lit→Prop} (h:K (litsRu r)):litK tab 60 133 (cellsRu r) K:=
 And.intro (wfW _) (And.intro (wfB _) (And.intro (wfB _) (And.intro (wfB _) (And.intro (wfW _) (And.intro (wfW _) (And.intro (wfW _) (And.intro (wfW _) (And.intro (wfW _) (And.intro (wfB _) h)))))))))
theorem neqRu (r s:Rule) {K:V→Prop} (h:K (.bool (!decide (r=s)))):aggK tab .neq 133 (cellsRu r) (cellsRu s) K:=by
 refine aggK_neq rfl rfl ?_
 refine litRu r ?_
 refine litRu s ?_
 exact⟨decide (r=s),by rw[litsRu_inj];simp,h⟩
theorem equalRu_ok (fr fr':Bool) (a b:List Rule):PCon prog 93 [encRus fr a,encRus fr' b] (.bool (decide (a=b))):=by
 refine callV_of (fn:=Go.Proofs.Tryz.f93) (body:=_) tab_ok mixed rfl rfl (by decide) (by simp[Go.Proofs.Tryz.f93]) ?_
 conv=>whnf
 intro ha
 have ha:a.length≤maxLen:=by simpa[gd]using ha
 conv=>whnf
 intro hb
 conv=>whnf
 split
 ·rename_i hne
  conv=>whnf
  refine Ends.pure [] (.bool_of ?_) (by simp)
  symm
  rw[decide_eq_false_iff_not]
  rintro rfl
  simp at hne
 ·rename_i hne
  have hlen:a.length=b.length:=by simp at hne;omega
  conv=>whnf
  intro _
  conv=>whnf
  refine vcg_loop tab_ok mixed (fun i:{i:Nat // i≤a.length∧a.take i=b.take i}=>⟨[(0,encRus fr a),(1,encRus fr' b),(12,cI a.length),(13,.int .i64 i.1)],[],0⟩) (fun i=>a.length - i.1) ⟨0,by omega,rfl⟩ (Wk.of id [] ⟨.free (encRus_free _ _),.free (encRus_free _ _),.int_of (by simp),.int_of rfl,trivial⟩ (LeH.nil (Nat.le_refl _) (fun b h=>by omega) (by simp))) (fun i=>?_)
  obtain⟨i,hi,hr⟩:=i
  conv=>whnf
  split
  ·rename_i hc
   have hc:i < a.length:=by simpa using hc
   have hc':i < b.length:=by omega
   conv=>whnf
   refine ixK (idxRu hc) ?_
   conv=>whnf
   refine ixK (idxRu hc') ?_
   conv=>whnf
   refine neqRu a[i] b[i] ?_
   conv=>whnf
   refine⟨by kernel_rfl,?_⟩
   conv=>whnf
   split
   ·rename_i h1
    conv=>whnf
    refine Ends.pure [] (.bool_of ?_) (by simp)
    symm
    rw[decide_eq_false_iff_not]
    rintro rfl
    simp at h1
   ·rename_i h1
    have h1:a[i]=b[i]:=by simpa using h1
    conv=>whnf
    exact⟨⟨i + 1,by omega,take_step hc hc' hr h1⟩,Wk.of id [] ⟨.free (encRus_free _ _),.free (encRus_free _ _),.int_of rfl,.int_of (wrap64_succ hc ha),trivial⟩ (LeH.nil (Nat.le_refl _) (fun b h=>by omega) (by simp)),by simp only;omega⟩
  ·rename_i hc
   have hc:i=a.length:=by simp at hc;omega
   subst hc
   rw[List.take_length,hlen,List.take_length]at hr
   conv=>whnf
   refine Ends.pure [] (.bool_of ?_) (by simp)
   simp[hr]
def sameP (p q:Policy):Bool:=decide (p.rules=q.rules)&& decide (p.els=q.els)
theorem sameP_eq {p q:Policy}:sameP p q=true↔p=q:=by
 obtain⟨a,b⟩:=p
 obtain⟨c,d⟩:=q
 simp[sameP]
theorem psame_ok (fr fr':Bool) (p q:Policy):PCon prog 53 [encPo fr p,encPo fr' q] (.bool (sameP p q)):=by
 refine callV_of (fn:=Go.Proofs.Tryz.f53) (body:=_) tab_ok mixed rfl rfl (by decide) (by simp[Go.Proofs.Tryz.f53]) ?_
 conv=>whnf
 split
 ·rename_i h
  conv=>whnf
  refine callV_pure (equalRu_ok fr fr' p.rules q.rules) ⟨.free (encRus_free _ _),.free (encRus_free _ _),trivial⟩ ?_
  conv=>whnf
  refine Ends.pure [] (.bool_of ?_) (by simp)
  simp_all[sameP]
 ·rename_i h
  conv=>whnf
  refine Ends.pure [] (.bool_of ?_) (by simp)
  simp_all[sameP]
end
section
open Go.Proofs.Tryz (prog)
attribute [local irreducible] CallV RoundV aggK
theorem cloneRu_own (fr:Bool) (l:List Rule) (hl:l.length≤1000):OCon prog 76 [encRus fr l] true false 133 15 l.length (rowsRu l):=by
 rcases l with _|⟨x,l⟩
 ·refine callV_of (fn:=Go.Proofs.Tryz.f76) (body:=_) tab_ok mixed rfl rfl (by decide) (by simp[Go.Proofs.Tryz.f76]) ?_
  conv=>whnf
  refine⟨?_,?_⟩
  ·conv=>whnf
   exact Ends.ownNil
  ·conv=>whnf
   refine⟨⟨rfl,rfl,rfl,rfl,by decide⟩,by simp,⟨by simp[tab,tabOf,nth],by simp⟩,?_⟩
   conv=>whnf
   exact Ends.own rfl (by simp) rfl rfl
 ·refine callV_of (fn:=Go.Proofs.Tryz.f76) (body:=_) tab_ok mixed rfl rfl (by decide) (by simp[Go.Proofs.Tryz.f76]) ?_
  conv=>whnf
  refine⟨⟨rfl,rfl,rfl,rfl,by decide⟩,by simp,⟨by simp[tab,tabOf,nth]at *;omega,by simp at *;omega⟩,?_⟩
  conv=>whnf
  exact Ends.own rfl (rowsRu_free (x :: l)) (by simp) rfl
theorem cloneRu_ok (fr:Bool) (l:List Rule) (hl:l.length≤1000):PCon prog 76 [encRus fr l] (encRus true l):=by
 have h:=PCon.of_own (cloneRu_own fr l hl) (by simp) (rowsRu_free l)
 rwa [List.take_of_length_le (by simp)]at h
theorem copied_ok (fr:Bool) (p:Policy) (hl:p.rules.length≤1000):PCon prog 37 [encPo fr p] (encPo false p):=by
 have hc:=cloneRu_ok fr p.rules hl
 refine callV_of (fn:=Go.Proofs.Tryz.f37) (body:=_) tab_ok mixed rfl rfl (by decide) (by simp[Go.Proofs.Tryz.f37]) ?_
 conv=>whnf
 refine⟨_,[],fun h nx _=>pureV_pure hc ⟨.fr rfl,trivial⟩,by simp,?_⟩
 conv=>whnf
 refine⟨by kernel_rfl,?_⟩
 conv=>whnf
 exact(Ends.pure [] (by repeat' (first|exact True.intro|exact .aggL ⟨.fresh_off (.fr rfl),.fr rfl,trivial⟩|exact .A|exact LeL.fr rfl|refine .tupL ?_|refine .aggL ?_|refine⟨?_,?_⟩)) (by simp))
def InC (f:FuncId) (args:List V) (C C':List V) (R:V→Prop):Prop:=
 CallV prog f args [(0,some (.var true 99 C))] 1 (fun v h nx=>R v∧h=[(0,some (.var true 99 C'))]∧nx=1)
theorem callV_in {f:FuncId} {args args0:List V} {C C':List V} {R:V→Prop} {h:Heap} {nx b:Nat} {K:V→Heap→Nat→Prop} (hc:InC f args0 C C' R) (hb:hget h b=some (.var true 99 C))
  (hC:∀v∈C,Free v) (hC':∀v∈C',Free v) (ha:LeL h nx (fun _=>b) 1 [] args args0) (hR:∀v,R v→Free v∧K v ((b,some (.var true 99 C')) :: h) nx):CallV prog f args h nx K:=by
 refine callV_ptr (R:=fun v c=>R v∧c=C') (hc.mono ?_) hb hC ha ?_
 ·rintro v h' nx' ⟨h1,rfl,rfl⟩
  exact⟨C',⟨h1,rfl⟩,rfl,rfl⟩
 ·rintro v c ⟨h1,rfl⟩
  exact⟨(hR v h1).1,hC',(hR v h1).2⟩
theorem none_ok (own:UInt32) (pe:Peer) (pol:Policy) (m:List (Prefix × Attrs)):InC 38 [.ptr 0 0] (cellsIn own pe pol m) (cellsIn own pe pol m) (·=.bool false):=by
 unfold InC
 refine callV_of (fn:=Go.Proofs.Tryz.f38) (body:=_) tab_ok mixed rfl rfl (by decide) (by simp[Go.Proofs.Tryz.f38]) ?_
 conv=>whnf
 exact⟨_,_,_,(Ends.all id [] (by repeat' (first|exact LHa|exact LeL.freeV (cellsIn_free own pe pol m)|exact .A|exact LeL.fr rfl|exact LHb|refine Or.inl ⟨by simp,_,rfl,?_⟩|exact Or.inr ⟨by simp,_,_,_,_,rfl⟩|refine⟨rfl,rfl,rfl,rfl,rfl,rfl,?_⟩|refine⟨?_,?_⟩)) (fun _ _ _ _ h=>h) (fun _ _=>rfl) (by omega) (by simp)),rfl,rfl,rfl⟩
def peerB (own:UInt32) (p:Peer):Bool:=decide (own ≠ 0)&& decide (p.sys ≠ 0)&& decide (p.id ≠ 0)&& decide (p.addr ≠ 0)&& (p.inner == decide (p.sys=own))
theorem zeroW (x:UInt32):((x.toNat:Int)=0)↔x=0:=by
 constructor
 ·intro h;exact UInt32.toNat_inj.1 (by simpa using h)
 ·intro h;subst h;rfl
theorem eqW (x y:UInt32):((x.toNat:Int)=y.toNat)↔x=y:=by
 constructor
 ·intro h;exact UInt32.toNat_inj.1 (by omega)
 ·intro h;subst h;rfl
theorem beqW (x y:UInt32):((x.toNat:Int) == (y.toNat:Int))=decide (x=y):=by
 by_cases h:x=y
 ·subst h;simp
 ·rw[decide_eq_false h]
  simp only[beq_eq_false_iff_ne]
  exact fun e=>h ((eqW _ _).1 e)
structure RibS where
 own:UInt32
 peer:Peer
 pol:Policy
 said:List (Prefix × Attrs)
def noRibS:RibS:=⟨0,⟨0,0,0,false⟩,⟨[],false⟩,[]⟩
def newOk (own:UInt32) (pe:Peer) (pol:Policy):Bool:=peerB own pe && decide (checkP pol=0)
def newS (own:UInt32) (pe:Peer) (pol:Policy):RibS:=if newOk own pe pol then⟨own,pe,pol,[]⟩else noRibS
theorem neW {x:UInt32} (h:x ≠ 0):((x.toNat:Int) == 0)=false:=by
 simp only[beq_eq_false_iff_ne]
 exact fun e=>h ((zeroW x).1 e)
theorem newOk_out {own:UInt32} {pe:Peer} {pol:Policy} (h:newOk own pe pol=true):own ≠ 0∧pe.sys ≠ 0∧pe.id ≠ 0∧pe.addr ≠ 0∧pe.inner=decide (pe.sys=own)∧checkP pol=0:=by
 simp only[newOk,peerB,Bool.and_eq_true,decide_eq_true_eq,beq_iff_eq]at h
 obtain⟨⟨⟨⟨⟨h1,h2⟩,h3⟩,h4⟩,h5⟩,h6⟩:=h
 exact⟨h1,h2,h3,h4,h5,h6⟩
theorem pol_small {pol:Policy} (h:checkP pol=0):pol.rules.length≤16:=by
 unfold checkP at h
 split at h
 ·exact absurd h (by decide)
 ·split at h
  ·exact absurd h (by decide)
  ·omega
theorem new_ok (own:UInt32) (pe:Peer) (pol:Policy) (h:newOk own pe pol=true):CallV prog 13 [cW own,encPe pe,encPo false pol] [] 0 (fun v h nx=>v=.tup [.ptr 0 0,.int .i64 0]∧h=[(0,some (.var true 99 (cellsIn own pe pol [])))]∧nx=1):=by
 obtain⟨h1,h2,h3,h4,h5,h6⟩:=newOk_out h
 have rc:=check23_ok false pol
 rw[h6]at rc
 have cp:=copied_ok false pol (by have:=pol_small h6;omega)
 have e5:(pe.inner != ((pe.sys.toNat:Int) == own.toNat))=false:=by rw[beqW,h5];simp
 refine callV_of (fn:=Go.Proofs.Tryz.f13) (body:=_) tab_ok mixed rfl rfl (by decide) (by simp[Go.Proofs.Tryz.f13]) ?_
 conv=>whnf
 rw[neW h1]
 conv=>whnf
 rw[neW h2]
 conv=>whnf
 rw[neW h3]
 conv=>whnf
 rw[neW h4]
 conv=>whnf
 rw[e5]
 conv=>whnf
 refine callV_pure rc ⟨.fr rfl,trivial⟩ ?_
 conv=>whnf
 refine⟨_,[],fun h nx _=>pureV_pure cp ⟨.fr rfl,trivial⟩,by simp,?_⟩
 conv=>whnf
 refine⟨by kernel_rfl,?_⟩
 conv=>whnf
 exact⟨.tup [.ptr 0 0,.int .i64 0],[(0,some (.var true 99 (cellsIn own pe pol [])))],1,(Ends.all (renOf [(0,3)]) [2] (by repeat' (first|exact LHa|exact Or.inl ⟨by decide,_,rfl,id,rfl,.fr rfl,.fr rfl,.fr rfl,.fr rfl,.fr rfl,.fr rfl,.fr rfl,LeV.freezeM (by simp) rfl rfl (by simp),trivial⟩|exact .tupL ⟨.ptr rfl (by omega),.fr rfl,trivial⟩|exact .A|exact LeL.fr rfl|exact LHb|refine Or.inl ⟨by simp,_,rfl,?_⟩|exact Or.inr ⟨by simp,_,_,_,_,rfl⟩|refine⟨rfl,rfl,rfl,rfl,rfl,rfl,?_⟩|refine⟨?_,?_⟩)) (show ∀b∈([0]:List Nat),∀b'∈([0]:List Nat),(renOf [(0,3)]) b=(renOf [(0,3)]) b'→b=b' by decide) (fun _ h=>by omega) (by omega) (by intro z hz;simp only[List.mem_cons,List.not_mem_nil,or_false]at hz;rcases hz with rfl<;>exact ne_none_of rfl)),rfl,rfl,rfl⟩
theorem new_bad (own:UInt32) (pe:Peer) (pol:Policy) (h:newOk own pe pol=false):PCon prog 13 [cW own,encPe pe,encPo false pol] (.tup [.nilp,.int .i64 2]):=by
 have z:=zeroW
 have e:=eqW
 have rc:=check23_ok false pol
 refine callV_of (fn:=Go.Proofs.Tryz.f13) (body:=_) tab_ok mixed rfl rfl (by decide) (by simp[Go.Proofs.Tryz.f13]) ?_
 conv=>whnf
 repeat' first
  | exact(Ends.pA)
  | (refine callV_pure rc ⟨.fr rfl,trivial⟩ ?_;(conv=>whnf))
  | (split<;>(conv=>whnf))
 all_goals (try (exfalso;simp_all[newOk,peerB,beqW];done))
end
section
open Go.Proofs.Tryz (prog)
attribute [local irreducible] CallV RoundV aggK
theorem keys_erase {α:Type}:∀(l:List (Prefix × α)) (k:Nat),keysE (l.eraseIdx k)=(keysE l).eraseIdx k
 | [],_=>by simp[keysE]
 | p :: l,0=>by simp[keysE]
 | p :: l,k + 1=>by simpa[keysE]using keys_erase l k
theorem esA_erase:∀(l:List (Prefix × Attrs)) (k:Nat),(esA l).eraseIdx k=esA (l.eraseIdx k)
 | [],_=>by simp[esA]
 | p :: l,0=>by simp[esA]
 | p :: l,k + 1=>by simpa[esA]using esA_erase l k
theorem sortedA_ok (m:List (Prefix × Attrs)) (hb:m.length≤1000):PCon prog 44 [.imap false (esA m)] (encPs true (sortPs (keysE m))):=by
 refine callV_of (fn:=Go.Proofs.Tryz.f44) (body:=_) tab_ok mixed rfl rfl (by decide) (by simp[Go.Proofs.Tryz.f44]) ?_
 conv=>whnf
 refine callV_of (fn:=Go.Proofs.Tryz.f84) (body:=_) tab_ok mixed rfl rfl (by decide) (by simp[Go.Proofs.Tryz.f84]) ?_
 conv=>whnf
 refine⟨_,_,_,Ends.here,?_⟩
 conv=>whnf
 refine callV_of (fn:=Go.Proofs.Tryz.f83) (body:=_) tab_ok mixed rfl rfl (by decide) (by simp[Go.Proofs.Tryz.f83]) ?_
 conv=>whnf
 refine callV_of (fn:=Go.Proofs.Tryz.f109) (body:=_) tab_ok mixed rfl rfl (by decide) (by simp[Go.Proofs.Tryz.f109]) ?_
 conv=>whnf
 refine callV_of (fn:=Go.Proofs.Tryz.f157) (body:=_) tab_ok mixed rfl rfl (by decide) (by simp[Go.Proofs.Tryz.f157]) ?_
 conv=>whnf
 refine callV_loop [(2,.ptr 1 0)] ⟨rfl,trivial⟩ fun asg' body' hasg hbody=>?_
 refine callV_of (fn:=Go.Proofs.Tryz.f111) (body:=_) tab_ok mixed rfl rfl (by decide) (by simp[Go.Proofs.Tryz.f111]) ?_
 conv=>whnf
 refine vcg_loop tab_ok mixed (fun p:{p:List Prefix × List (Prefix × Attrs) // (p.1 ++ keysE p.2).Perm (keysE m)}=>⟨[(0,.yld 2),(5,.ptr 3 0)],[(2,some (.loop 13 [(2,.ptr 1 0)] [7] asg' body' .ready none)),(1,some (.var true 22 [.osl 4 2 0 p.1.1.length])),(3,some (.iter none (esA p.1.2))),(4,some (.arr true false 53 2 (rowsP p.1.1)))],5⟩) (fun p=>p.1.2.length) ⟨([],m),by simp⟩ ?_ (fun p=>?_)
 ·refine Wk.of id [] ⟨.yld rfl (by omega),.ptr rfl (by omega),trivial⟩ (LeH.of ⟨⟨by omega,.inl ⟨by simp,_,rfl,rfl,rfl,rfl,rfl,rfl,rfl,.ptr rfl (by omega),trivial⟩⟩,⟨by omega,.inl ⟨by simp,_,rfl,id,rfl,.osl0,trivial⟩⟩,⟨by omega,.inl ⟨by simp,_,rfl,LeB.iter rfl (esA_free _)⟩⟩,⟨by omega,.inr ⟨by simp,_,_,_,_,rfl⟩⟩,trivial⟩ (fun _ _ _ _ h=>h) (fun _ _=>rfl) (by omega) (by simp))
 obtain⟨⟨xs,rest⟩,hp⟩:=p
 conv=>whnf
 refine⟨fun h0=>?_,fun k kv hk=>?_⟩
 ·have h0:rest=[]:=by simpa[esA]using h0
  subst h0
  rw[show keysE ([]:List (Prefix × Attrs))=[]from rfl,List.append_nil]at hp
  conv=>whnf
  refine⟨_,_,_,Ends.here,?_⟩
  conv=>whnf
  refine⟨_,_,_,Ends.here,?_⟩
  conv=>whnf
  refine⟨_,_,_,Ends.here,?_⟩
  conv=>whnf
  have hxl:xs.length≤1000:=by
   have h1:xs.length=(keysE m).length:=hp.length_eq
   have h2:(keysE m).length=m.length:=by simp[keysE]
   omega
  refine callV_frame (nx:=5) (n0:=1) (renOf [(0,4)]) (sortF_ok true false xs (by omega)) (by repeat' (first|exact True.intro|exact .osl_of rfl (by omega) rfl|exact .free (.fn (by simp) (by simp))|exact LeB.arrE rfl (rowsP_free _) id id|exact .A|exact LeL.fr rfl|refine⟨?_,?_⟩)) (LeH.of (by repeat' (first|exact LHa|exact .osl_of rfl (by omega) rfl|exact .free (.fn (by simp) (by simp))|exact LeB.arrE rfl (rowsP_free _) id id|exact .A|exact LeL.fr rfl|exact LHb|refine Or.inl ⟨by simp,_,rfl,?_⟩|exact Or.inr ⟨by simp,_,_,_,_,rfl⟩|refine⟨rfl,rfl,rfl,rfl,rfl,rfl,?_⟩|refine⟨?_,?_⟩)) (show ∀b∈([0]:List Nat),∀b'∈([0]:List Nat),(renOf [(0,4)]) b=(renOf [(0,4)]) b'→b=b' by decide) (fun _ h=>by omega) (by omega) (by simp)) (fun b hb=>by match b,hb with|0,_=>exact ne_none_of rfl) (by decide) ?_
  rintro v h' nx' ⟨rfl,rfl,rfl⟩ _
  refine⟨.tup [],[(4,some (.arr true false 53 2 (rowsP (sortPs xs))))],.free (.tup (by simp)),(by repeat' (first|exact True.intro|exact Or.inr ⟨by decide,rfl⟩|exact Or.inl ⟨0,rfl,by omega,_,rfl,RenB.arr (rowsP_free _)⟩|refine⟨?_,?_⟩)),?_⟩
  conv=>whnf
  refine⟨_,_,_,Ends.here,?_⟩
  conv=>whnf
  have hs:sortPs xs=sortPs (keysE m):=sortPs_perm (by simpa using hp)
  exact Ends.pure [4] (LeV.freeze_of (by simp) rfl (by simp[sortPs_len]) (rowsP_free _) (by rw[hs];exact List.take_of_length_le (by simp[sortPs_len,← hs]))) (one_none rfl)
 ·obtain⟨p,hpk,rfl⟩:∃p,rest[k]? = some p∧kv=(encP p.1,encA false p.2):=by
   simp only[esA,List.getElem?_map,Option.map_eq_some_iff]at hk
   obtain⟨p,h1,h2⟩:=hk
   exact⟨p,h1,h2.symm⟩
  conv=>whnf
  subst hasg hbody
  refine roundV_of tab_ok mixed rfl (by simp) (show 2 < 6 by omega) ?_
  conv=>whnf
  have hlen:xs.length + 1≤1000:=by
   have h1:=hp.length_eq
   have h2:(keysE m).length=m.length:=by simp[keysE]
   have h3:k < rest.length:=(List.getElem?_eq_some_iff.1 hpk).1
   simp only[List.length_append,keysE,List.length_map]at h1 h2
   omega
  refine⟨rfl,by first|rfl|(simp;done),by first|rfl|(simp;done),⟨rfl,rfl,rfl,rfl,by decide⟩,by simp[rowsP],⟨by simp[tab,tabOf,nth];omega,by simp;omega⟩,?_⟩
  conv=>whnf
  refine⟨rfl,?_⟩
  conv=>whnf
  have hperm:((xs ++ [p.1])++ keysE (rest.eraseIdx k)).Perm (keysE m):=by
    have h1:(keysE rest)[k]? = some p.1:=by simp[keysE,hpk]
    have h2:keysE (rest.eraseIdx k)=(keysE rest).eraseIdx k:=keys_erase rest k
    rw[h2]
    exact(perm_step h1).trans hp
  refine⟨⟨(xs ++ [p.1],rest.eraseIdx k),hperm⟩,Wk.of (renOf [(4,8)]) [] ⟨.yld rfl (by omega),.ptr rfl (by omega),trivial⟩ (LeH.of ⟨⟨by omega,.inl ⟨by simp,_,rfl,rfl,rfl,rfl,rfl,rfl,rfl,.ptr rfl (by omega),trivial⟩⟩,⟨by omega,.inl ⟨by simp,_,rfl,id,rfl,.osl_of rfl (by omega) (by simp),trivial⟩⟩,⟨by omega,.inl ⟨by simp,_,rfl,LeB.iter (esA_erase rest k) (fun kv h=>esA_free _ kv (List.mem_of_mem_eraseIdx h))⟩⟩,⟨by omega,.inl ⟨by simp,_,rfl,LeB.arrE (by simp[rowsP];exact⟨List.take_of_length_le (by simp),rfl⟩) (fun x hx v hv=>by
   rcases List.mem_append.1 hx with h|h
   ·exact rowsP_free xs x (List.mem_of_mem_take h) v hv
   ·simp at h;subst h;simp at hv;rcases hv with rfl|rfl<;>exact .int) id id⟩⟩,trivial⟩ (show ∀b∈([2,1,3,4]:List Nat),∀b'∈([2,1,3,4]:List Nat),renOf [(4,8)] b=renOf [(4,8)] b'→b=b' by decide) (show ∀b,b < 3→renOf [(4,8)] b=b by decide) (by omega) (by simp)),?_⟩
  show(rest.eraseIdx k).length < rest.length
  have:=(List.getElem?_eq_some_iff.1 hpk).1
  rw[List.length_eraseIdx]
  split<;>omega
end
section
open Go.Proofs.Tryz (prog)
attribute [local irreducible] CallV RoundV aggK
def byR (pol:Policy) (own:UInt32) (p:Prefix) (a:Attrs):Attrs × Bool:=if byE pol own p a ≠ 0 then(noA,false)else(byA pol own p a,byOk pol own p a)
theorem byV_R (fr:Bool) (pol:Policy) (own:UInt32) (p:Prefix) (a:Attrs):byV fr pol own p a=.tup [encA fr (byR pol own p a).1,.bool (byR pol own p a).2,.int .i64 (byE pol own p a)]:=by
 unfold byV byR
 by_cases h:byE pol own p a=0
 ·rw[if_neg (by simp[h]),if_neg (by simp[h]),h]
 ·rw[if_pos h,if_pos h]
def outA (pe:Peer) (a:Attrs):Attrs:=if pe.inner then a else { a with hasPref:=false,pref:=0 }
def isC (own:UInt32) (pe:Peer) (pol:Policy) (p:Prefix) (a:Attrs):Nat→Bool
 | 0=>true
 | 1=>!hasA a.path own
 | 2=>!hasA a.path own && (pe.inner || decide (firstOf a=pe.sys))
 | _=>!hasA a.path own && (pe.inner || decide (firstOf a=pe.sys))&& (byR pol own p (outA pe a)).2
def curC (own:UInt32) (pe:Peer) (pol:Policy) (p:Prefix) (a:Attrs):Nat→Attrs
 | 0=>a
 | 1=>a
 | 2=>a
 | _=>if isC own pe pol p a 2 then(byR pol own p (outA pe a)).1 else a
def cnt (own:UInt32) (pe:Peer) (pol:Policy) (p:Prefix) (a:Attrs):Option Attrs:=if isC own pe pol p a 3 then some (byR pol own p (outA pe a)).1 else none
def zeroC:List V:=[.int .u8 0,.snil,.int .u32 0,.bool false,.int .u32 0,.bool false,.int .u32 0,.snil]
def stepRows:List (List V):=[[.fn (.func 125) [] [.ptr 4 0]],[.fn (.func 127) [] [.ptr 4 0]],[.fn (.func 129) [] [.ptr 4 0]]]
theorem stepRows_le {h:Heap} {nx nx':Nat} {Z:List Nat} (hn:5 < nx'):LeR h nx id nx' Z stepRows stepRows:=
 ⟨⟨.fnL trivial ⟨.ptr rfl (by omega),trivial⟩,trivial⟩,⟨.fnL trivial ⟨.ptr rfl (by omega),trivial⟩,trivial⟩,⟨.fnL trivial ⟨.ptr rfl (by omega),trivial⟩,trivial⟩,trivial⟩
def optV (fr:Bool) (o:Option Attrs):V:=.tup [encA fr (o.getD noA),.bool o.isSome]
def smallA (a:Attrs):Prop:=a.path.length≤1000∧(∀p∈a.path,p.ns.length≤1000)∧a.tags.length≤1000
theorem look_some {m:List (Prefix × Attrs)} {p:Prefix} {a:Attrs} (h:getE m p=some a):MVal (esA m) (encP p) (some (encA false a)):=by
 obtain⟨i,hi⟩:=List.getElem?_of_mem (getE_mem h)
 exact⟨i,by simp[esA,hi]⟩
theorem look_none {m:List (Prefix × Attrs)} {p:Prefix} (h:getE m p=none):MVal (esA m) (encP p) none:=by
 intro kv hkv e
 obtain⟨x,hx,rfl⟩:=List.mem_map.1 hkv
 exact getE_none.1 h (List.mem_map.2 ⟨x,hx,encP_inj e⟩)
theorem count_none (own:UInt32) (pe:Peer) (pol:Policy) (m:List (Prefix × Attrs)) (p:Prefix) (h:getE m p=none):InC 55 [.ptr 0 0,encP p] (cellsIn own pe pol m) (cellsIn own pe pol m) (·=optV true none):=by
 unfold InC
 refine callV_of (fn:=Go.Proofs.Tryz.f55) (body:=_) tab_ok mixed rfl rfl (by decide) (by simp[Go.Proofs.Tryz.f55]) ?_
 conv=>whnf
 refine⟨esA_keys m,keyP p,none,look_none h,?_⟩
 conv=>whnf
 refine⟨by kernel_rfl,?_⟩
 conv=>whnf
 refine callV_of (fn:=Go.Proofs.Tryz.f94) (body:=_) tab_ok mixed rfl rfl (by decide) (by simp[Go.Proofs.Tryz.f94]) ?_
 conv=>whnf
 refine⟨_,_,_,Ends.here,?_⟩
 conv=>whnf
 intro _
 conv=>whnf
 refine vcg_loop tab_ok mixed (fun k:{k:Nat // k≤3}=>⟨[(3,.ptr 1 0),(4,.ptr 2 0),(6,.ptr 3 0),(7,.bool false),(20,.osl 5 1 0 3),(21,.int .i64 3),(22,cI k.1)],[(0,some (.var true 99 (cellsIn own pe pol m))),(1,some (.var true 53 (cellsP p))),(2,some (.var true 27 zeroC)),(3,some (.var true 27 zeroC)),(4,some (.var true 41 [.ptr 0 0])),(5,some (.arr true true 156 1 stepRows))],6⟩) (fun k=>3 - k.1) ⟨0,by omega⟩ (Wk.i (by repeat' (first|exact LHa|exact⟨id,id,rfl,rfl,LeR.out (stepRows_le (by omega))⟩|exact LeL.freeV (cellsIn_free own pe pol m)|exact .A|exact LeL.fr rfl|exact LHb|refine Or.inl ⟨by simp,_,rfl,?_⟩|exact Or.inr ⟨by simp,_,_,_,_,rfl⟩|refine⟨rfl,rfl,rfl,rfl,rfl,rfl,?_⟩|refine⟨?_,?_⟩)) (by omega)) (fun k=>?_)
 obtain⟨k,hk⟩:=k
 have hk':k=0∨k=1∨k=2∨k=3:=by omega
 rcases hk' with rfl|rfl|rfl|rfl
 ·conv=>whnf
  refine⟨rfl,⟨by simp,by simp⟩,?_⟩
  conv=>whnf
  refine⟨rfl,_,rfl,?_⟩
  conv=>whnf
  exact⟨⟨1,by omega⟩,(Wk.i (by repeat' (first|exact LHa|exact⟨id,id,rfl,rfl,LeR.out (stepRows_le (by omega))⟩|exact LeL.freeV (cellsIn_free own pe pol m)|exact .A|exact LeL.fr rfl|exact LHb|refine Or.inl ⟨by simp,_,rfl,?_⟩|exact Or.inr ⟨by simp,_,_,_,_,rfl⟩|refine⟨rfl,rfl,rfl,rfl,rfl,rfl,?_⟩|refine⟨?_,?_⟩)) (by omega)),by simp only;omega⟩
 ·conv=>whnf
  refine⟨rfl,⟨by simp,by simp⟩,?_⟩
  conv=>whnf
  refine⟨rfl,_,rfl,?_⟩
  conv=>whnf
  exact⟨⟨2,by omega⟩,(Wk.i (by repeat' (first|exact LHa|exact⟨id,id,rfl,rfl,LeR.out (stepRows_le (by omega))⟩|exact LeL.freeV (cellsIn_free own pe pol m)|exact .A|exact LeL.fr rfl|exact LHb|refine Or.inl ⟨by simp,_,rfl,?_⟩|exact Or.inr ⟨by simp,_,_,_,_,rfl⟩|refine⟨rfl,rfl,rfl,rfl,rfl,rfl,?_⟩|refine⟨?_,?_⟩)) (by omega)),by simp only;omega⟩
 ·conv=>whnf
  refine⟨rfl,⟨by simp,by simp⟩,?_⟩
  conv=>whnf
  refine⟨rfl,_,rfl,?_⟩
  conv=>whnf
  exact⟨⟨3,by omega⟩,(Wk.i (by repeat' (first|exact LHa|exact⟨id,id,rfl,rfl,LeR.out (stepRows_le (by omega))⟩|exact LeL.freeV (cellsIn_free own pe pol m)|exact .A|exact LeL.fr rfl|exact LHb|refine Or.inl ⟨by simp,_,rfl,?_⟩|exact Or.inr ⟨by simp,_,_,_,_,rfl⟩|refine⟨rfl,rfl,rfl,rfl,rfl,rfl,?_⟩|refine⟨?_,?_⟩)) (by omega)),by simp only;omega⟩
 ·conv=>whnf
  exact⟨optV true none,[(0,some (.var true 99 (cellsIn own pe pol m)))],1,(Ends.all id [] (by repeat' (first|exact LHa|exact LeL.freeV (cellsIn_free own pe pol m)|exact .tupL ⟨.noA,.fr rfl,trivial⟩|exact .A|exact LeL.fr rfl|exact LHb|refine Or.inl ⟨by simp,_,rfl,?_⟩|exact Or.inr ⟨by simp,_,_,_,_,rfl⟩|refine⟨rfl,rfl,rfl,rfl,rfl,rfl,?_⟩|refine⟨?_,?_⟩)) (fun _ _ _ _ h=>h) (fun _ _=>rfl) (by omega) (by simp)),rfl,rfl,rfl⟩
theorem cellsA_off {h:Heap} {nx nx':Nat} {ρ:Nat→Nat} {Z:List Nat} {a:Attrs}:LeL h nx ρ nx' Z (cellsA true a) (cellsA false a):=
 ⟨.fr rfl,(LeV.fr rfl).less Less.legs,.fr rfl,.fr rfl,.fr rfl,.fr rfl,.fr rfl,(LeV.fr rfl).less Less.encW,trivial⟩
theorem count_some (own:UInt32) (pe:Peer) (pol:Policy) (m:List (Prefix × Attrs)) (p:Prefix) (a:Attrs) (h:getE m p=some a) (hs:smallA a) (hs2:∀b,cnt own pe pol p a=some b→smallA b) :
  InC 55 [.ptr 0 0,encP p] (cellsIn own pe pol m) (cellsIn own pe pol m) (·=optV true (cnt own pe pol p a)):=by
 obtain⟨s1,s2,s3⟩:=hs
 have hh:=has_ok false a own s1 s2 s3
 have hf:=first_ok false a
 have hb:=by_ok false false pol own p (outA pe a)
 rw[byV_R]at hb
 unfold InC
 refine callV_of (fn:=Go.Proofs.Tryz.f55) (body:=_) tab_ok mixed rfl rfl (by decide) (by simp[Go.Proofs.Tryz.f55]) ?_
 conv=>whnf
 refine⟨esA_keys m,keyP p,some (encA false a),look_some h,?_⟩
 conv=>whnf
 refine⟨by kernel_rfl,?_⟩
 conv=>whnf
 refine callV_of (fn:=Go.Proofs.Tryz.f94) (body:=_) tab_ok mixed rfl rfl (by decide) (by simp[Go.Proofs.Tryz.f94]) ?_
 conv=>whnf
 refine⟨_,_,_,Ends.here,?_⟩
 conv=>whnf
 intro _
 conv=>whnf
 refine vcg_loop tab_ok mixed (fun k:{k:Nat // k≤3}=>⟨[(3,.ptr 1 0),(4,.ptr 2 0),(6,.ptr 3 0),(7,.bool (isC own pe pol p a k.1)),(20,.osl 5 1 0 3),(21,.int .i64 3),(22,cI k.1)],[(0,some (.var true 99 (cellsIn own pe pol m))),(1,some (.var true 53 (cellsP p))),(2,some (.var true 27 zeroC)),(3,some (.var true 27 (cellsA false (curC own pe pol p a k.1)))),(4,some (.var true 41 [.ptr 0 0])),(5,some (.arr true true 156 1 stepRows))],6⟩) (fun k=>3 - k.1) ⟨0,by omega⟩ (Wk.i (by repeat' (first|exact LHa|exact⟨id,id,rfl,rfl,LeR.out (stepRows_le (by omega))⟩|exact LeL.freeV (cellsIn_free own pe pol m)|exact LeL.freeV (cellsA_free _ _)|exact .A|exact LeL.fr rfl|exact LHb|refine Or.inl ⟨by simp,_,rfl,?_⟩|exact Or.inr ⟨by simp,_,_,_,_,rfl⟩|refine⟨rfl,rfl,rfl,rfl,rfl,rfl,?_⟩|refine⟨?_,?_⟩)) (by omega)) (fun k=>?_)
 obtain⟨k,hk⟩:=k
 have hk':k=0∨k=1∨k=2∨k=3:=by omega
 rcases hk' with rfl|rfl|rfl|rfl
 ·conv=>whnf
  refine⟨rfl,⟨by simp,by simp⟩,?_⟩
  conv=>whnf
  refine⟨rfl,_,rfl,?_⟩
  conv=>whnf
  refine callV_of (fn:=Go.Proofs.Tryz.f125) (body:=_) tab_ok mixed rfl rfl (by decide) (by simp[Go.Proofs.Tryz.f125]) ?_
  conv=>whnf
  refine⟨_,[],fun h nx _=>pureV_pure hh ⟨.fr rfl,.fr rfl,trivial⟩,by simp,?_⟩
  conv=>whnf
  refine⟨by kernel_rfl,?_⟩
  conv=>whnf
  refine⟨_,_,_,Ends.here,?_⟩
  conv=>whnf
  exact⟨⟨1,by omega⟩,(Wk.i (by repeat' (first|exact LHa|exact⟨id,id,rfl,rfl,LeR.out (stepRows_le (by omega))⟩|exact LeL.freeV (cellsIn_free own pe pol m)|exact .bool_of rfl|exact LeL.freeV (cellsA_free _ _)|exact .A|exact LeL.fr rfl|exact LHb|refine Or.inl ⟨by simp,_,rfl,?_⟩|exact Or.inr ⟨by simp,_,_,_,_,rfl⟩|refine⟨rfl,rfl,rfl,rfl,rfl,rfl,?_⟩|refine⟨?_,?_⟩)) (by omega)),by simp only;omega⟩
 ·cases h1:isC own pe pol p a 1 with
  | false=>
   conv=>whnf
   refine⟨rfl,⟨by simp,by simp⟩,?_⟩
   conv=>whnf
   refine⟨rfl,_,rfl,?_⟩
   conv=>whnf
   exact⟨⟨2,by omega⟩,(Wk.i (by repeat' (first|exact LHa|exact⟨id,id,rfl,rfl,LeR.out (stepRows_le (by omega))⟩|exact LeL.freeV (cellsIn_free own pe pol m)|exact .bool_of (by simp only[isC]at h1 ⊢;simp[h1])|exact LeL.freeV (cellsA_free _ _)|exact .A|exact LeL.fr rfl|exact LHb|refine Or.inl ⟨by simp,_,rfl,?_⟩|exact Or.inr ⟨by simp,_,_,_,_,rfl⟩|refine⟨rfl,rfl,rfl,rfl,rfl,rfl,?_⟩|refine⟨?_,?_⟩)) (by omega)),by simp only;omega⟩
  | true=>
   conv=>whnf
   refine⟨rfl,⟨by simp,by simp⟩,?_⟩
   conv=>whnf
   refine⟨rfl,_,rfl,?_⟩
   conv=>whnf
   refine callV_of (fn:=Go.Proofs.Tryz.f127) (body:=_) tab_ok mixed rfl rfl (by decide) (by simp[Go.Proofs.Tryz.f127]) ?_
   conv=>whnf
   have hq:hasA a.path own=false:=by simp only[isC]at h1;simpa using h1
   cases hi:pe.inner with
   | true=>
    conv=>whnf
    refine⟨by kernel_rfl,?_⟩
    conv=>whnf
    refine⟨_,_,_,Ends.here,?_⟩
    conv=>whnf
    exact⟨⟨2,by omega⟩,(Wk.i (by repeat' (first|exact LHa|exact⟨id,id,rfl,rfl,LeR.out (stepRows_le (by omega))⟩|exact LeL.freeV (cellsIn_free own pe pol m)|exact .bool_of (by simp[isC,hq,hi])|exact LeL.freeV (cellsA_free _ _)|exact .A|exact LeL.fr rfl|exact LHb|refine Or.inl ⟨by simp,_,rfl,?_⟩|exact Or.inr ⟨by simp,_,_,_,_,rfl⟩|refine⟨rfl,rfl,rfl,rfl,rfl,rfl,?_⟩|refine⟨?_,?_⟩)) (by omega)),by simp only;omega⟩
   | false=>
    conv=>whnf
    refine⟨_,[],fun h nx _=>pureV_pure hf ⟨.fr rfl,trivial⟩,by simp,?_⟩
    conv=>whnf
    refine⟨by kernel_rfl,?_⟩
    conv=>whnf
    refine⟨_,_,_,Ends.here,?_⟩
    conv=>whnf
    exact⟨⟨2,by omega⟩,(Wk.i (by repeat' (first|exact LHa|exact⟨id,id,rfl,rfl,LeR.out (stepRows_le (by omega))⟩|exact LeL.freeV (cellsIn_free own pe pol m)|exact .bool_of (by simp[isC,hq,hi,beqW])|exact LeL.freeV (cellsA_free _ _)|exact .A|exact LeL.fr rfl|exact LHb|refine Or.inl ⟨by simp,_,rfl,?_⟩|exact Or.inr ⟨by simp,_,_,_,_,rfl⟩|refine⟨rfl,rfl,rfl,rfl,rfl,rfl,?_⟩|refine⟨?_,?_⟩)) (by omega)),by simp only;omega⟩
 ·cases h2:isC own pe pol p a 2 with
  | false=>
   have e3:curC own pe pol p a 3=a:=by simp only[curC,h2];simp
   conv=>whnf
   refine⟨rfl,⟨by simp,by simp⟩,?_⟩
   conv=>whnf
   refine⟨rfl,_,rfl,?_⟩
   conv=>whnf
   exact⟨⟨3,by omega⟩,(Wk.i (by repeat' (first|exact LHa|exact⟨id,id,rfl,rfl,LeR.out (stepRows_le (by omega))⟩|exact LeL.freeV (cellsIn_free own pe pol m)|exact .bool_of (by simp only[isC]at h2 ⊢;simp[h2])|exact(by rw[e3];exact LeL.freeV (cellsA_free _ _))|exact .A|exact LeL.fr rfl|exact LHb|refine Or.inl ⟨by simp,_,rfl,?_⟩|exact Or.inr ⟨by simp,_,_,_,_,rfl⟩|refine⟨rfl,rfl,rfl,rfl,rfl,rfl,?_⟩|refine⟨?_,?_⟩)) (by omega)),by simp only;omega⟩
  | true=>
   have e3:curC own pe pol p a 3=(byR pol own p (outA pe a)).1:=by simp only[curC,h2];simp
   have b3:isC own pe pol p a 3=(byR pol own p (outA pe a)).2:=by
    simp only[isC]at h2 ⊢
    rw[h2];simp
   conv=>whnf
   refine⟨rfl,⟨by simp,by simp⟩,?_⟩
   conv=>whnf
   refine⟨rfl,_,rfl,?_⟩
   conv=>whnf
   refine callV_of (fn:=Go.Proofs.Tryz.f129) (body:=_) tab_ok mixed rfl rfl (by decide) (by simp[Go.Proofs.Tryz.f129]) ?_
   conv=>whnf
   cases hi:pe.inner with
   | true=>
    have ho:outA pe a=a:=by simp[outA,hi]
    rw[ho]at hb e3 b3
    conv=>whnf
    refine⟨_,[],fun h nx _=>pureV_pure hb ⟨.fr rfl,.fr rfl,.fr rfl,.fr rfl,trivial⟩,by simp,?_⟩
    conv=>whnf
    refine⟨by kernel_rfl,?_⟩
    conv=>whnf
    refine⟨_,_,_,Ends.here,?_⟩
    conv=>whnf
    exact⟨⟨3,by omega⟩,(Wk.i (by repeat' (first|exact LHa|exact⟨id,id,rfl,rfl,LeR.out (stepRows_le (by omega))⟩|exact LeL.freeV (cellsIn_free own pe pol m)|exact .bool_of b3.symm|exact(by rw[e3];exact cellsA_off)|exact .A|exact LeL.fr rfl|exact LHb|refine Or.inl ⟨by simp,_,rfl,?_⟩|exact Or.inr ⟨by simp,_,_,_,_,rfl⟩|refine⟨rfl,rfl,rfl,rfl,rfl,rfl,?_⟩|refine⟨?_,?_⟩)) (by omega)),by simp only;omega⟩
   | false=>
    have ho:outA pe a={ a with hasPref:=false,pref:=0 }:=by simp[outA,hi]
    rw[ho]at hb e3 b3
    conv=>whnf
    refine⟨_,[],fun h nx _=>pureV_pure hb ⟨.fr rfl,.fr rfl,.fr rfl,.fr rfl,trivial⟩,by simp,?_⟩
    conv=>whnf
    refine⟨by kernel_rfl,?_⟩
    conv=>whnf
    refine⟨_,_,_,Ends.here,?_⟩
    conv=>whnf
    exact⟨⟨3,by omega⟩,(Wk.i (by repeat' (first|exact LHa|exact⟨id,id,rfl,rfl,LeR.out (stepRows_le (by omega))⟩|exact LeL.freeV (cellsIn_free own pe pol m)|exact .bool_of b3.symm|exact(by rw[e3];exact cellsA_off)|exact .A|exact LeL.fr rfl|exact LHb|refine Or.inl ⟨by simp,_,rfl,?_⟩|exact Or.inr ⟨by simp,_,_,_,_,rfl⟩|refine⟨rfl,rfl,rfl,rfl,rfl,rfl,?_⟩|refine⟨?_,?_⟩)) (by omega)),by simp only;omega⟩
 ·cases h3:isC own pe pol p a 3 with
  | false=>
   have e:cnt own pe pol p a=none:=by rw[cnt,h3];rfl
   rw[e]
   conv=>whnf
   exact⟨optV true none,[(0,some (.var true 99 (cellsIn own pe pol m)))],1,(Ends.all id [] (by repeat' (first|exact LHa|exact LeL.freeV (cellsIn_free own pe pol m)|exact .tupL ⟨.noA,.fr rfl,trivial⟩|exact .A|exact LeL.fr rfl|exact LHb|refine Or.inl ⟨by simp,_,rfl,?_⟩|exact Or.inr ⟨by simp,_,_,_,_,rfl⟩|refine⟨rfl,rfl,rfl,rfl,rfl,rfl,?_⟩|refine⟨?_,?_⟩)) (fun _ _ _ _ h=>h) (fun _ _=>rfl) (by omega) (by simp)),rfl,rfl,rfl⟩
  | true=>
   have e2:isC own pe pol p a 2=true:=by
    simp only[isC]at h3 ⊢
    rw[Bool.and_eq_true]at h3
    exact h3.1
   have e3:curC own pe pol p a 3=(byR pol own p (outA pe a)).1:=by simp only[curC,e2];simp
   have e:cnt own pe pol p a=some (curC own pe pol p a 3):=by rw[cnt,h3,e3];rfl
   obtain⟨q1,q2,q3⟩:=hs2 _ e
   have hc:=copy_pure false (curC own pe pol p a 3) q1 q2 q3
   rw[e]
   generalize curC own pe pol p a 3=c at hc
   conv=>whnf
   refine callV_pure hc ⟨.fr rfl,trivial⟩ ?_
   conv=>whnf
   exact⟨optV true (some c),[(0,some (.var true 99 (cellsIn own pe pol m)))],1,(Ends.all id [] (by repeat' (first|exact LHa|exact LeL.freeV (cellsIn_free own pe pol m)|exact .tupL ⟨.fr rfl,.fr rfl,trivial⟩|exact .A|exact LeL.fr rfl|exact LHb|refine Or.inl ⟨by simp,_,rfl,?_⟩|exact Or.inr ⟨by simp,_,_,_,_,rfl⟩|refine⟨rfl,rfl,rfl,rfl,rfl,rfl,?_⟩|refine⟨?_,?_⟩)) (fun _ _ _ _ h=>h) (fun _ _=>rfl) (by omega) (by simp)),rfl,rfl,rfl⟩
end
section
open Go.Proofs.Tryz (prog)
attribute [local irreducible] CallV RoundV aggK
theorem LeB.mapPut {h:Heap} {nx nx':Nat} {ρ:Nat→Nat} {Z:List Nat} {out:List (Prefix × Attrs)} {p:Prefix} {b:Attrs} :
  LeB h nx ρ nx' Z (.map (mput (esA out) (encP p) (encA true b) none)) (.map (esA (out ++ [(p,b)]))):=by
 refine⟨by simp[mput,esA],fun j kv kv' h1 h2=>?_⟩
 simp only[mput,esA,List.map_append,List.map_cons,List.map_nil]at h1 h2
 rcases Nat.lt_or_ge j (List.map (fun e:Prefix × Attrs=>(encP e.1,encA false e.2)) out).length with hj|hj
 ·rw[List.getElem?_append_left hj]at h1 h2
  rw[h1]at h2
  cases h2
  have:=esA_free out kv (List.mem_of_getElem? h1)
  exact⟨.free this.1,.free this.2⟩
 ·rw[List.getElem?_append_right hj]at h1 h2
  have hz:j - (List.map (fun e:Prefix × Attrs=>(encP e.1,encA false e.2)) out).length=0:=by
   have:=(List.getElem?_eq_some_iff.1 h1).1
   simp only[List.length_cons,List.length_nil]at this
   omega
  rw[hz]at h1 h2
  simp only[List.getElem?_cons_zero,Option.some.injEq]at h1 h2
  subst h1;subst h2
  exact⟨.free (encP_free _),(LeV.free (encA_free true b)).less (less_encA true)⟩
theorem put_new {out:List (Prefix × Attrs)} {p:Prefix} (h:p ∉ keysE out):MPos (esA out) (encP p) none:=by
 intro kv hkv e
 obtain⟨x,hx,rfl⟩:=List.mem_map.1 hkv
 exact h (List.mem_map.2 ⟨x,hx,encP_inj e⟩)
theorem perm_eraseA:∀{l:List (Prefix × Attrs)} {k:Nat} {p:Prefix × Attrs},l[k]? = some p→(p :: l.eraseIdx k).Perm l
 | [],_,_,h=>by simp at h
 | a :: l,0,p,h=>by simp at h;subst h;simp
 | a :: l,k + 1,p,h=>by
  have h:l[k]? = some p:=by simpa using h
  rw[List.eraseIdx_cons_succ]
  exact(List.Perm.swap a p _).trans ((perm_eraseA h).cons a)
theorem perm_stepA {xs rest:List (Prefix × Attrs)} {k:Nat} {p:Prefix × Attrs} (h:rest[k]? = some p):((xs ++ [p])++ rest.eraseIdx k).Perm (xs ++ rest):=by
 rw[List.append_assoc]
 refine List.Perm.append_left xs ?_
 exact perm_eraseA h
theorem cnt_snoc {c:Prefix→Attrs→Option Attrs} (xs:List (Prefix × Attrs)) (p:Prefix) (a:Attrs):cntE c (xs ++ [(p,a)])=cntE c xs ++ (match c p a with|none=>[]|some b=>[(p,b)]):=by
 simp only[cntE,List.filterMap_append]
 congr 1
 cases h:c p a<;>simp[h]
def okM (own:UInt32) (pe:Peer) (pol:Policy) (m:List (Prefix × Attrs)):Prop:=NodE m∧m.length≤400∧∀e∈m,smallA e.2∧∀b,cnt own pe pol e.1 e.2=some b→smallA b
theorem count_ok {own:UInt32} {pe:Peer} {pol:Policy} {m:List (Prefix × Attrs)} (hm:okM own pe pol m) (p:Prefix) :
  InC 55 [.ptr 0 0,encP p] (cellsIn own pe pol m) (cellsIn own pe pol m) (·=optV true ((getE m p).bind (cnt own pe pol p))):=by
 cases h:getE m p with
 | none=>exact count_none own pe pol m p h
 | some a=>
  obtain⟨h1,h2⟩:=hm.2.2 _ (getE_mem h)
  exact count_some own pe pol m p a h h1 h2
theorem counted_ok {own:UInt32} {pe:Peer} {pol:Policy} {m:List (Prefix × Attrs)} (hm:okM own pe pol m) :
  InC 80 [.ptr 0 0] (cellsIn own pe pol m) (cellsIn own pe pol m) (fun v=>∃m',v=.imap false (esA m')∧m'.Perm (cntE (cnt own pe pol) m)):=by
 unfold InC
 refine callV_of (fn:=Go.Proofs.Tryz.f80) (body:=_) tab_ok mixed rfl rfl (by decide) (by simp[Go.Proofs.Tryz.f80]) ?_
 conv=>whnf
 refine vcg_loop tab_ok mixed (fun q:{q:List (Prefix × Attrs) × List (Prefix × Attrs) // (q.1 ++ q.2).Perm m}=>⟨[(0,.ptr 0 0),(3,.mapp 1),(12,.ptr 2 0)],[(0,some (.var true 99 (cellsIn own pe pol m))),(1,some (.map (esA (cntE (cnt own pe pol) q.1.1)))),(2,some (.iter none (esA q.1.2)))],3⟩) (fun q=>q.1.2.length) ⟨([],m),by simp⟩ (Wk.i (by repeat' (first|exact LHa|exact LeL.freeV (cellsIn_free own pe pol m)|exact .mapp rfl (by omega)|exact LeB.map rfl (by simp)|exact LeB.iter rfl (esA_free _)|exact .A|exact LeL.fr rfl|exact LHb|refine Or.inl ⟨by simp,_,rfl,?_⟩|exact Or.inr ⟨by simp,_,_,_,_,rfl⟩|refine⟨rfl,rfl,rfl,rfl,rfl,rfl,?_⟩|refine⟨?_,?_⟩)) (by omega)) (fun q=>?_)
 obtain⟨⟨xs,rest⟩,hq⟩:=q
 conv=>whnf
 refine⟨fun h0=>?_,fun k kv hk=>?_⟩
 ·have h0:rest=[]:=by simpa[esA]using h0
  subst h0
  rw[List.append_nil]at hq
  conv=>whnf
  exact⟨.imap false (esA (cntE (cnt own pe pol) xs)),[(0,some (.var true 99 (cellsIn own pe pol m)))],1,(Ends.all id [1] (by repeat' (first|exact LHa|exact LeL.freeV (cellsIn_free own pe pol m)|exact LeV.freezeM (by simp) rfl rfl (esA_free _)|exact .A|exact LeL.fr rfl|exact LHb|refine Or.inl ⟨by simp,_,rfl,?_⟩|exact Or.inr ⟨by simp,_,_,_,_,rfl⟩|refine⟨rfl,rfl,rfl,rfl,rfl,rfl,?_⟩|refine⟨?_,?_⟩)) (fun _ _ _ _ h=>h) (fun _ _=>rfl) (by omega) (by intro z hz;simp only[List.mem_cons,List.not_mem_nil,or_false]at hz;rcases hz with rfl<;>exact ne_none_of rfl)),Exists.intro _ (And.intro rfl (perm_cnt hq)),rfl,rfl⟩
 ·obtain⟨⟨p,a⟩,hpk,rfl⟩:∃p,rest[k]? = some p∧kv=(encP p.1,encA false p.2):=by
   simp only[esA,List.getElem?_map,Option.map_eq_some_iff]at hk
   obtain⟨p,h1,h2⟩:=hk
   exact⟨p,h1,h2.symm⟩
  have hkx:p ∉ keysE (cntE (cnt own pe pol) xs):=fun hin=>by
   have h1:NodE (xs ++ rest):=hm.1.perm hq.symm
   have h2:p∈keysE xs:=(keys_cnt _ xs).subset hin
   have h3:p∈keysE rest:=List.mem_map.2 ⟨_,List.mem_of_getElem? hpk,rfl⟩
   unfold NodE keysE at h1
   rw[List.map_append,List.nodup_append]at h1
   exact h1.2.2 p h2 p h3 rfl
  have hg:getE m p=some a:=mem_getE hm.1 (hq.mem_iff.1 (List.mem_append_right _ (List.mem_of_getElem? hpk)))
  have hc:=count_ok hm p
  rw[hg]at hc
  have hperm:((xs ++ [(p,a)])++ rest.eraseIdx k).Perm m:=(perm_stepA hpk).trans hq
  have hlt:(rest.eraseIdx k).length < rest.length:=by
   have:=(List.getElem?_eq_some_iff.1 hpk).1
   rw[List.length_eraseIdx]
   split<;>omega
  conv=>whnf
  refine callV_in hc rfl (cellsIn_free _ _ _ _) (cellsIn_free _ _ _ _) ⟨.ptr rfl (by omega),.fr rfl,trivial⟩ ?_
  rintro v rfl
  refine⟨.tup (by simp;exact⟨encA_free _ _,.bool⟩),?_⟩
  show _
  cases hcn:cnt own pe pol p a with
  | none=>
   have hx:cntE (cnt own pe pol) (xs ++ [(p,a)])=cntE (cnt own pe pol) xs:=by rw[cnt_snoc,hcn];simp
   simp only[Option.bind_some,hcn]
   conv=>whnf
   exact⟨⟨(xs ++ [(p,a)],rest.eraseIdx k),hperm⟩,(Wk.i (by repeat' (first|exact LHa|exact LeL.freeV (cellsIn_free own pe pol m)|exact .mapp rfl (by omega)|exact LeB.map (by rw[hx]) (esA_free _)|exact LeB.iter (esA_erase rest k) (fun kv h=>esA_free _ kv (List.mem_of_mem_eraseIdx h))|exact .A|exact LeL.fr rfl|exact LHb|refine Or.inl ⟨by simp,_,rfl,?_⟩|exact Or.inr ⟨by simp,_,_,_,_,rfl⟩|refine⟨rfl,rfl,rfl,rfl,rfl,rfl,?_⟩|refine⟨?_,?_⟩)) (by omega)),hlt⟩
  | some b=>
   have hx:cntE (cnt own pe pol) (xs ++ [(p,a)])=cntE (cnt own pe pol) xs ++ [(p,b)]:=by rw[cnt_snoc,hcn]
   simp only[Option.bind_some,hcn]
   conv=>whnf
   refine⟨esA_keys _,keyP p,none,put_new hkx,?_⟩
   conv=>whnf
   exact⟨⟨(xs ++ [(p,a)],rest.eraseIdx k),hperm⟩,(Wk.i (by repeat' (first|exact LHa|exact LeL.freeV (cellsIn_free own pe pol m)|exact .mapp rfl (by omega)|exact(by rw[hx];exact LeB.mapPut)|exact LeB.iter (esA_erase rest k) (fun kv h=>esA_free _ kv (List.mem_of_mem_eraseIdx h))|exact .A|exact LeL.fr rfl|exact LHb|refine Or.inl ⟨by simp,_,rfl,?_⟩|exact Or.inr ⟨by simp,_,_,_,_,rfl⟩|refine⟨rfl,rfl,rfl,rfl,rfl,rfl,?_⟩|refine⟨?_,?_⟩)) (by omega)),hlt⟩
end
section
open Go.Proofs.Tryz (prog)
attribute [local irreducible] CallV RoundV aggK
theorem find_key {m:List (Prefix × Attrs)} {p:Prefix} (h:p∈keysE m):∃(i:Nat) (a:Attrs),m[i]? = some (p,a):=by
 obtain⟨x,hx,rfl⟩:=List.mem_map.1 h
 obtain⟨i,hi⟩:=List.getElem?_of_mem hx
 exact⟨i,x.2,hi⟩
theorem keys_set {m:List (Prefix × Attrs)} {i:Nat} {p:Prefix} {a b:Attrs} (h:m[i]? = some (p,a)):keysE (m.set i (p,b))=keysE m:=by
 simp only[keysE,List.map_set]
 exact set_self (by simp[h])
theorem put_any (m:List (Prefix × Attrs)) (p:Prefix) (b:Attrs):∃(r:Option Nat) (m':List (Prefix × Attrs)),MPos (esA m) (encP p) r∧mput (esA m) (encP p) (encA false b) r=esA m'∧(NodE m→NodE m')∧(∀q,q∈keysE m'↔q=p∨q∈keysE m)∧m'.length≤m.length + 1:=by
 by_cases h:p∈keysE m
 ·obtain⟨i,a,hi⟩:=find_key h
  refine⟨some i,m.set i (p,b),⟨encA false a,by simp[esA,hi]⟩,by simp[mput,esA,List.map_set],fun hn=>?_,fun q=>?_,by simp⟩
  ·unfold NodE;rw[keys_set hi];exact hn
  ·rw[keys_set hi]
   constructor
   ·exact .inr
   ·rintro (rfl|hq)
    ·exact h
    ·exact hq
 ·refine⟨none,m ++ [(p,b)],put_new h,by simp[mput,esA],fun hn=>?_,fun q=>?_,by simp⟩
  ·have:=nod_put (p:=p) (a:=b) hn
   rwa [putE,if_neg h]at this
  ·simp[keysE,or_comm]
def copyPost (a b m:List (Prefix × Attrs)):Prop:=(NodE a→NodE m)∧(∀q,q∈keysE m↔q∈keysE a∨q∈keysE b)∧m.length≤a.length + b.length
theorem mcopy_ok (a b:List (Prefix × Attrs)):CallV prog 82 [.mapp 0,.imap false (esA b)] [(0,some (.map (esA a)))] 1
  (fun v h nx=>v=.tup []∧(∃m,copyPost a b m∧h=[(0,some (.map (esA m)))])∧nx=1):=by
 refine callV_of (fn:=Go.Proofs.Tryz.f82) (body:=_) tab_ok mixed rfl rfl (by decide) (by simp[Go.Proofs.Tryz.f82]) ?_
 conv=>whnf
 refine vcg_loop tab_ok mixed (fun q:{q:List (Prefix × Attrs) × List (Prefix × Attrs) × List (Prefix × Attrs) // (q.1 ++ q.2.1).Perm b∧copyPost a q.1 q.2.2}=>⟨[(0,.mapp 0),(7,.ptr 1 0)],[(0,some (.map (esA q.1.2.2))),(1,some (.iter none (esA q.1.2.1)))],2⟩) (fun q=>q.1.2.1.length) ⟨([],b,a),by simp,id,by simp[keysE],by simp⟩ (Wk.i (by repeat' (first|exact LHa|exact .mapp rfl (by omega)|exact LeB.map rfl (esA_free _)|exact LeB.iter rfl (esA_free _)|exact .A|exact LeL.fr rfl|exact LHb|refine Or.inl ⟨by simp,_,rfl,?_⟩|exact Or.inr ⟨by simp,_,_,_,_,rfl⟩|refine⟨rfl,rfl,rfl,rfl,rfl,rfl,?_⟩|refine⟨?_,?_⟩)) (by omega)) (fun q=>?_)
 obtain⟨⟨xs,rest,m⟩,hq,hp⟩:=q
 conv=>whnf
 refine⟨fun h0=>?_,fun k kv hk=>?_⟩
 ·have h0:rest=[]:=by simpa[esA]using h0
  subst h0
  rw[List.append_nil]at hq
  have hp2:copyPost a b m:=⟨hp.1,fun q=>by rw[hp.2.1 q];have:q∈keysE xs↔q∈keysE b:=(hq.map fun e:Prefix × Attrs=>e.1).mem_iff;rw[this],by have:=hp.2.2;have:=hq.length_eq;simp only at *;omega⟩
  conv=>whnf
  exact⟨.tup [],[(0,some (.map (esA m)))],1,(Ends.all id [] (by repeat' (first|exact LHa|exact .mapp rfl (by omega)|exact LeB.map rfl (esA_free _)|exact .free (.tup (by simp))|exact .A|exact LeL.fr rfl|exact LHb|refine Or.inl ⟨by simp,_,rfl,?_⟩|exact Or.inr ⟨by simp,_,_,_,_,rfl⟩|refine⟨rfl,rfl,rfl,rfl,rfl,rfl,?_⟩|refine⟨?_,?_⟩)) (fun _ _ _ _ h=>h) (fun _ _=>rfl) (by omega) (by simp)),rfl,⟨m,hp2,rfl⟩,rfl⟩
 ·obtain⟨⟨p,c⟩,hpk,rfl⟩:∃p,rest[k]? = some p∧kv=(encP p.1,encA false p.2):=by
   simp only[esA,List.getElem?_map,Option.map_eq_some_iff]at hk
   obtain⟨p,h1,h2⟩:=hk
   exact⟨p,h1,h2.symm⟩
  have hperm:((xs ++ [(p,c)])++ rest.eraseIdx k).Perm b:=(perm_stepA hpk).trans hq
  have hlt:(rest.eraseIdx k).length < rest.length:=by
   have:=(List.getElem?_eq_some_iff.1 hpk).1
   rw[List.length_eraseIdx]
   split<;>omega
  obtain⟨r,m',h1,h2,h3,h4,h5⟩:=put_any m p c
  have hfr:∀kv∈mput (esA m) (encP p) (encA false c) r,Free kv.1∧Free kv.2:=by rw[h2];exact esA_free _
  have hp2:copyPost a (xs ++ [(p,c)]) m':=⟨fun hn=>h3 (hp.1 hn),fun q=>by rw[h4,hp.2.1];simp only[keysE,List.map_append,List.mem_append,List.map_cons,List.map_nil,List.mem_singleton];constructor<;>(intro h;rcases h with h|h|h<;>simp[h]),by have:=hp.2.2;simp only[List.length_append,List.length_cons,List.length_nil]at *;omega⟩
  conv=>whnf
  refine⟨esA_keys _,keyP p,r,h1,?_⟩
  conv=>whnf
  exact⟨⟨(xs ++ [(p,c)],rest.eraseIdx k,m'),hperm,hp2⟩,(Wk.i (by repeat' (first|exact LHa|exact .mapp rfl (by omega)|exact LeB.map h2 hfr|exact LeB.iter (esA_erase rest k) (fun kv h=>esA_free _ kv (List.mem_of_mem_eraseIdx h))|exact .A|exact LeL.fr rfl|exact LHb|refine Or.inl ⟨by simp,_,rfl,?_⟩|exact Or.inr ⟨by simp,_,_,_,_,rfl⟩|refine⟨rfl,rfl,rfl,rfl,rfl,rfl,?_⟩|refine⟨?_,?_⟩)) (by omega)),hlt⟩
end
section
open Go.Proofs.Tryz (prog)
attribute [local irreducible] CallV RoundV aggK
theorem len24_ok (own:UInt32) (pe:Peer) (pol:Policy) (m:List (Prefix × Attrs)):InC 22 [.ptr 0 0] (cellsIn own pe pol m) (cellsIn own pe pol m) (·=.int .i64 m.length):=by
 unfold InC
 refine callV_of (fn:=Go.Proofs.Tryz.f22) (body:=_) tab_ok mixed rfl rfl (by decide) (by simp[Go.Proofs.Tryz.f22]) ?_
 conv=>whnf
 refine callV_in (none_ok own pe pol m) rfl (cellsIn_free _ _ _ _) (cellsIn_free _ _ _ _) ⟨.ptr rfl (by omega),trivial⟩ ?_
 rintro v rfl
 refine⟨.bool,?_⟩
 show _
 conv=>whnf
 exact⟨.int .i64 m.length,[(0,some (.var true 99 (cellsIn own pe pol m)))],1,(Ends.all id [] (by repeat' (first|exact LHa|exact LeL.freeV (cellsIn_free own pe pol m)|exact .int_of (by simp[esA])|exact .A|exact LeL.fr rfl|exact LHb|refine Or.inl ⟨by simp,_,rfl,?_⟩|exact Or.inr ⟨by simp,_,_,_,_,rfl⟩|refine⟨rfl,rfl,rfl,rfl,rfl,rfl,?_⟩|refine⟨?_,?_⟩)) (fun _ _ _ _ h=>h) (fun _ _=>rfl) (by omega) (by simp)),rfl,rfl,rfl⟩
theorem said24_ok {own:UInt32} {pe:Peer} {pol:Policy} {m:List (Prefix × Attrs)} (hm:okM own pe pol m) (p:Prefix) :
  InC 28 [.ptr 0 0,encP p] (cellsIn own pe pol m) (cellsIn own pe pol m) (·=optV true (getE m p)):=by
 unfold InC
 cases hg:getE m p with
 | none=>
  have hc:=copy_pure true noA (by decide) (by decide) (by decide)
  refine callV_of (fn:=Go.Proofs.Tryz.f28) (body:=_) tab_ok mixed rfl rfl (by decide) (by simp[Go.Proofs.Tryz.f28]) ?_
  conv=>whnf
  refine callV_in (none_ok own pe pol m) rfl (cellsIn_free _ _ _ _) (cellsIn_free _ _ _ _) ⟨.ptr rfl (by omega),trivial⟩ ?_
  rintro v rfl
  refine⟨.bool,?_⟩
  show _
  conv=>whnf
  refine⟨esA_keys m,keyP p,none,look_none hg,?_⟩
  conv=>whnf
  refine⟨by kernel_rfl,?_⟩
  conv=>whnf
  refine callV_pure hc ⟨.noA,trivial⟩ ?_
  conv=>whnf
  exact⟨optV true none,[(0,some (.var true 99 (cellsIn own pe pol m)))],1,(Ends.all id [] (by repeat' (first|exact LHa|exact LeL.freeV (cellsIn_free own pe pol m)|exact .tupL ⟨.fr rfl,.fr rfl,trivial⟩|exact .A|exact LeL.fr rfl|exact LHb|refine Or.inl ⟨by simp,_,rfl,?_⟩|exact Or.inr ⟨by simp,_,_,_,_,rfl⟩|refine⟨rfl,rfl,rfl,rfl,rfl,rfl,?_⟩|refine⟨?_,?_⟩)) (fun _ _ _ _ h=>h) (fun _ _=>rfl) (by omega) (by simp)),rfl,rfl,rfl⟩
 | some a=>
  obtain⟨⟨s1,s2,s3⟩,_⟩:=hm.2.2 _ (getE_mem hg)
  have hc:=copy_pure false a s1 s2 s3
  refine callV_of (fn:=Go.Proofs.Tryz.f28) (body:=_) tab_ok mixed rfl rfl (by decide) (by simp[Go.Proofs.Tryz.f28]) ?_
  conv=>whnf
  refine callV_in (none_ok own pe pol m) rfl (cellsIn_free _ _ _ _) (cellsIn_free _ _ _ _) ⟨.ptr rfl (by omega),trivial⟩ ?_
  rintro v rfl
  refine⟨.bool,?_⟩
  show _
  conv=>whnf
  refine⟨esA_keys m,keyP p,some (encA false a),look_some hg,?_⟩
  conv=>whnf
  refine⟨by kernel_rfl,?_⟩
  conv=>whnf
  refine callV_pure hc ⟨.fr rfl,trivial⟩ ?_
  conv=>whnf
  exact⟨optV true (some a),[(0,some (.var true 99 (cellsIn own pe pol m)))],1,(Ends.all id [] (by repeat' (first|exact LHa|exact LeL.freeV (cellsIn_free own pe pol m)|exact .tupL ⟨.fr rfl,.fr rfl,trivial⟩|exact .A|exact LeL.fr rfl|exact LHb|refine Or.inl ⟨by simp,_,rfl,?_⟩|exact Or.inr ⟨by simp,_,_,_,_,rfl⟩|refine⟨rfl,rfl,rfl,rfl,rfl,rfl,?_⟩|refine⟨?_,?_⟩)) (fun _ _ _ _ h=>h) (fun _ _=>rfl) (by omega) (by simp)),rfl,rfl,rfl⟩
structure Route where
 pfx:Prefix
 attrs:Attrs
 peer:Peer
def noRt:Route:=⟨⟨0,0⟩,noA,⟨0,0,0,false⟩⟩
def cellsRt (fr:Bool) (r:Route):List V:=cellsP r.pfx ++ cellsA fr r.attrs ++ cellsPe r.peer
def encRt (fr:Bool) (r:Route):V:=.agg (cellsRt fr r)
theorem cellsRt_free (fr:Bool) (r:Route):∀v∈cellsRt fr r,Free v:=by
 intro v hv
 rcases List.mem_append.1 hv with h|h
 ·rcases List.mem_append.1 h with h|h
  ·exact cellsP_free _ v h
  ·exact cellsA_free _ _ v h
 ·exact(cellsPe_all _ v h).1
theorem encRt_free (fr:Bool) (r:Route):Free (encRt fr r):=.agg (cellsRt_free fr r)
instance {fr r}:FreeI (encRt fr r):=⟨⟨encRt_free fr r⟩⟩
def rtV (fr:Bool) (p:Prefix) (pe:Peer) (o:Option Attrs):V:=match o with
 | none=>.tup [encRt fr noRt,.bool false]
 | some a=>.tup [encRt fr ⟨p,a,pe⟩,.bool true]
theorem LeV.noRt {h:Heap} {nx nx':Nat} {ρ:Nat→Nat} {Z:List Nat} {fr:Bool}:LeV h nx ρ nx' Z (.agg [.int .u32 0,.int .u8 0,.int .u8 0,.snil,.int .u32 0,.bool false,.int .u32 0,.bool false,.int .u32 0,.snil,.int .u32 0,.int .u32 0,.int .u32 0,.bool false]) (encRt fr noRt):=
 .aggL ⟨.fr rfl,.fr rfl,.fr rfl,.snil_sl,.fr rfl,.fr rfl,.fr rfl,.fr rfl,.fr rfl,.snil_sl,.fr rfl,.fr rfl,.fr rfl,.fr rfl,trivial⟩
theorem counts24_ok {own:UInt32} {pe:Peer} {pol:Policy} {m:List (Prefix × Attrs)} (hm:okM own pe pol m) (p:Prefix) :
  InC 25 [.ptr 0 0,encP p] (cellsIn own pe pol m) (cellsIn own pe pol m) (·=rtV true p pe ((getE m p).bind (cnt own pe pol p))):=by
 have hc:=count_ok hm p
 unfold InC
 refine callV_of (fn:=Go.Proofs.Tryz.f25) (body:=_) tab_ok mixed rfl rfl (by decide) (by simp[Go.Proofs.Tryz.f25]) ?_
 conv=>whnf
 refine callV_in (none_ok own pe pol m) rfl (cellsIn_free _ _ _ _) (cellsIn_free _ _ _ _) ⟨.ptr rfl (by omega),trivial⟩ ?_
 rintro v rfl
 refine⟨.bool,?_⟩
 show _
 conv=>whnf
 refine callV_in hc rfl (cellsIn_free _ _ _ _) (cellsIn_free _ _ _ _) ⟨.ptr rfl (by omega),.fr rfl,trivial⟩ ?_
 rintro v rfl
 refine⟨.tup (by simp;exact⟨encA_free _ _,.bool⟩),?_⟩
 show _
 cases hcn:(getE m p).bind (cnt own pe pol p)with
 | none=>
  conv=>whnf
  exact⟨.tup [encRt true noRt,.bool false],[(0,some (.var true 99 (cellsIn own pe pol m)))],1,(Ends.all id [] (by repeat' (first|exact LHa|exact LeL.freeV (cellsIn_free own pe pol m)|exact .tupL ⟨.noRt,.fr rfl,trivial⟩|exact .A|exact LeL.fr rfl|exact LHb|refine Or.inl ⟨by simp,_,rfl,?_⟩|exact Or.inr ⟨by simp,_,_,_,_,rfl⟩|refine⟨rfl,rfl,rfl,rfl,rfl,rfl,?_⟩|refine⟨?_,?_⟩)) (fun _ _ _ _ h=>h) (fun _ _=>rfl) (by omega) (by simp)),rfl,rfl,rfl⟩
 | some a=>
  conv=>whnf
  refine⟨by kernel_rfl,?_⟩
  conv=>whnf
  exact⟨.tup [encRt true ⟨p,a,pe⟩,.bool true],[(0,some (.var true 99 (cellsIn own pe pol m)))],1,(Ends.all id [] (by repeat' (first|exact LHa|exact LeL.freeV (cellsIn_free own pe pol m)|exact .tupL ⟨.eq_of rfl (encRt_free true ⟨p,a,pe⟩),.fr rfl,trivial⟩|exact .A|exact LeL.fr rfl|exact LHb|refine Or.inl ⟨by simp,_,rfl,?_⟩|exact Or.inr ⟨by simp,_,_,_,_,rfl⟩|refine⟨rfl,rfl,rfl,rfl,rfl,rfl,?_⟩|refine⟨?_,?_⟩)) (fun _ _ _ _ h=>h) (fun _ _=>rfl) (by omega) (by simp)),rfl,rfl,rfl⟩
end
section
open Go.Proofs.Tryz (prog)
attribute [local irreducible] CallV RoundV aggK
theorem map_same {l:List (Prefix × Attrs)} {p:Prefix} {b:Attrs} (h:p ∉ keysE l):(l.map fun e=>if e.1=p then(p,b)else e)=l:=by
 conv=>rhs;rw[← List.map_id l]
 apply List.map_congr_left
 intro e he
 rw[if_neg fun e2=>h (List.mem_map.2 ⟨e,he,e2⟩)]
 rfl
theorem set_putE {p:Prefix} {a b:Attrs}:∀{l:List (Prefix × Attrs)} {i:Nat},NodE l→l[i]? = some (p,a)→l.set i (p,b)=l.map fun e=>if e.1=p then(p,b)else e
 | [],_,_,h=>by simp at h
 | e :: l,0,hn,h=>by
  simp only[List.getElem?_cons_zero,Option.some.injEq]at h
  subst h
  simp only[NodE,keysE,List.map_cons,List.nodup_cons]at hn
  rw[List.set_cons_zero,List.map_cons,if_pos rfl,map_same hn.1]
 | e :: l,i + 1,hn,h=>by
  simp only[NodE,keysE,List.map_cons,List.nodup_cons]at hn
  have h:l[i]? = some (p,a):=by simpa using h
  have hne:e.1 ≠ p:=fun e2=>hn.1 (e2▸List.mem_map.2 ⟨_,List.mem_of_getElem? h,rfl⟩)
  rw[List.set_cons_succ,List.map_cons,if_neg hne,set_putE hn.2 h]
theorem del_same {l:List (Prefix × Attrs)} {p:Prefix} (h:p ∉ keysE l):delE l p=l:=by
 rw[delE,List.filter_eq_self]
 intro e he
 rw[decide_eq_false fun e2=>h (List.mem_map.2 ⟨e,he,e2⟩)]
 rfl
theorem erase_delE {p:Prefix} {a:Attrs}:∀{l:List (Prefix × Attrs)} {i:Nat},NodE l→l[i]? = some (p,a)→l.eraseIdx i=delE l p
 | [],_,_,h=>by simp at h
 | e :: l,0,hn,h=>by
  simp only[List.getElem?_cons_zero,Option.some.injEq]at h
  subst h
  simp only[NodE,keysE,List.map_cons,List.nodup_cons]at hn
  have:=del_same (p:=p) hn.1
  rw[delE]at this
  simp[delE,this]
 | e :: l,i + 1,hn,h=>by
  simp only[NodE,keysE,List.map_cons,List.nodup_cons]at hn
  have h:l[i]? = some (p,a):=by simpa using h
  have hne:e.1 ≠ p:=fun e2=>hn.1 (e2▸List.mem_map.2 ⟨_,List.mem_of_getElem? h,rfl⟩)
  have ih:=erase_delE (p:=p) hn.2 h
  rw[delE]at ih
  rw[List.eraseIdx_cons_succ,ih,delE,List.filter_cons,decide_eq_false hne]
  rfl
theorem put_det {m:List (Prefix × Attrs)} (hn:NodE m) (p:Prefix) (b:Attrs):∃r,MPos (esA m) (encP p) r∧mput (esA m) (encP p) (encA false b) r=esA (putE m p b):=by
 by_cases h:p∈keysE m
 ·obtain⟨i,a,hi⟩:=find_key h
  refine⟨some i,⟨encA false a,by simp[esA,hi]⟩,?_⟩
  rw[putE,if_pos h,← set_putE hn hi]
  simp[mput,esA,List.map_set]
 ·exact⟨none,put_new h,by rw[putE,if_neg h];simp[mput,esA]⟩
theorem del_det {m:List (Prefix × Attrs)} (hn:NodE m) (p:Prefix):∃r,MPos (esA m) (encP p) r∧mdel (esA m) r=esA (delE m p):=by
 by_cases h:p∈keysE m
 ·obtain⟨i,a,hi⟩:=find_key h
  exact⟨some i,⟨encA false a,by simp[esA,hi]⟩,by rw[← erase_delE hn hi,mdel,esA_erase]⟩
 ·exact⟨none,put_new h,by rw[del_same h];rfl⟩
def cellsCh (fr:Bool) (c:Change):List V:=cellsP c.pfx ++ [.bool c.has]++ cellsA fr c.attrs
abbrev rowsCh (fr:Bool) (l:List Change):List (List V):=l.map (cellsCh fr)
def encChs (fr:Bool) (l:List Change):V:=.sl fr 11 (rowsCh fr l)
theorem cellsCh_free (fr:Bool) (c:Change):∀v∈cellsCh fr c,Free v:=by
 intro v hv
 rcases List.mem_append.1 hv with h|h
 ·rcases List.mem_append.1 h with h|h
  ·exact cellsP_free _ v h
  ·simp at h;subst h;exact .bool
 ·exact cellsA_free _ _ v h
theorem rowsCh_free (fr:Bool) (l:List Change):∀x∈rowsCh fr l,∀v∈x,Free v:=by
 intro x hx v hv
 obtain⟨c,_,rfl⟩:=List.mem_map.1 hx
 exact cellsCh_free fr c v hv
theorem encChs_free (fr:Bool) (l:List Change):Free (encChs fr l):=.sl (rowsCh_free fr l)
instance {fr l}:FreeI (encChs fr l):=⟨⟨encChs_free fr l⟩⟩
end
section
open Go.Proofs.Tryz (prog)
attribute [local irreducible] CallV RoundV aggK
theorem Ren.mapp {σ:Nat→Nat} {b b':Nat} (h:σ b=b'):Ren σ (.mapp b) (.mapp b'):=fun ι ι' z im u hι hv=>by
 subst h
 cases hv with
 | mapp _ c hc=>exact .mapp _ c ((hι b).trans hc)
theorem PCon.weak {P:Program} {f:FuncId} {args:List V} {v v':V} (h:PCon P f args v) (hl:Less v v'):PCon P f args v':=by
 unfold PCon CallV at *
 refine⟨h.1,fun G w us hr hv=>(h.2 G w us hr hv).mono ?_⟩
 rintro e w' ⟨u,v1,h',nx',G',h1,⟨rfl,e2,e3⟩,h3,h4,h5,h6⟩
 exact⟨u,v',h',nx',G',h1,⟨rfl,e2,e3⟩,hl _ _ _ _ (fun a u hi=>⟨hi.1,hi.2.1,(fun h=>by cases h),hi.2.2.2⟩) h3,h4,h5,h6⟩
theorem dels_succ (m:List (Prefix × Attrs)) {l:List Prefix} {i:Nat} (h:i < l.length):delsM m (l.take (i + 1))=delE (delsM m (l.take i)) l[i]:=by
 unfold delsM
 rw[List.take_succ_eq_append_getElem h,List.foldl_append]
 rfl
theorem puts_succ (m:List (Prefix × Attrs)) {l:List Prefix} {i:Nat} {a:Attrs} (h:i < l.length):putsM m (l.take (i + 1)) a=putE (putsM m (l.take i) a) l[i] a:=by
 unfold putsM
 rw[List.take_succ_eq_append_getElem h,List.foldl_append]
 rfl
theorem take_bad {own:UInt32} {pe:Peer} {pol:Policy} {m:List (Prefix × Attrs)} (hm:okM own pe pol m) (u:Upd) (hs:Small u) (hc:checkU u ≠ 0) :
  InC 14 [.ptr 0 0,encU false u] (cellsIn own pe pol m) (cellsIn own pe pol m) (·=.tup [.snil,.int .i64 2]):=by
 have cu:=ucheck_ok false u hs
 unfold InC
 refine callV_of (fn:=Go.Proofs.Tryz.f14) (body:=_) tab_ok mixed rfl rfl (by decide) (by simp[Go.Proofs.Tryz.f14]) ?_
 conv=>whnf
 refine callV_in (none_ok own pe pol m) rfl (cellsIn_free _ _ _ _) (cellsIn_free _ _ _ _) ⟨.ptr rfl (by omega),trivial⟩ ?_
 rintro v rfl
 refine⟨.bool,?_⟩
 show _
 conv=>whnf
 refine callV_pure cu ⟨.fr rfl,trivial⟩ ?_
 conv=>whnf
 split
 case' h_2 hh=>exfalso;simp[hc]at hh
 conv=>whnf
 exact⟨.tup [.snil,.int .i64 2],[(0,some (.var true 99 (cellsIn own pe pol m)))],1,(Ends.all id [] (by repeat' (first|exact LHa|exact LeL.freeV (cellsIn_free own pe pol m)|exact .A|exact LeL.fr rfl|exact LHb|refine Or.inl ⟨by simp,_,rfl,?_⟩|exact Or.inr ⟨by simp,_,_,_,_,rfl⟩|refine⟨rfl,rfl,rfl,rfl,rfl,rfl,?_⟩|refine⟨?_,?_⟩)) (fun _ _ _ _ h=>h) (fun _ _=>rfl) (by omega) (by simp)),rfl,rfl,rfl⟩
theorem take_full {own:UInt32} {pe:Peer} {pol:Policy} {m:List (Prefix × Attrs)} (hm:okM own pe pol m) (u:Upd) (hs:Small u) (hc:checkU u=0) (ha:smallA u.attrs) (hl:64 < (takeM m u.gone u.new u.attrs).length) :
  InC 14 [.ptr 0 0,encU false u] (cellsIn own pe pol m) (cellsIn own pe pol m) (·=.tup [.snil,.int .i64 340]):=by
 have cu:=ucheck_ok false u hs
 rw[hc]at cu
 unfold InC
 refine callV_of (fn:=Go.Proofs.Tryz.f14) (body:=_) tab_ok mixed rfl rfl (by decide) (by simp[Go.Proofs.Tryz.f14]) ?_
 conv=>whnf
 refine callV_in (none_ok own pe pol m) rfl (cellsIn_free _ _ _ _) (cellsIn_free _ _ _ _) ⟨.ptr rfl (by omega),trivial⟩ ?_
 rintro v rfl
 refine⟨.bool,?_⟩
 show _
 conv=>whnf
 refine callV_pure cu ⟨.fr rfl,trivial⟩ ?_
 conv=>whnf
 refine callV_frame (nx:=3) (n0:=0) id (cloneA_own false (esA m)) ⟨.fr rfl,trivial⟩ (LeH.nil (by omega) (fun _ h=>by omega) (by simp)) (fun b hb=>by omega) (fun b hb=>by omega) ?_
 rintro v h' nx' ⟨rfl,rfl,rfl⟩ _
 refine⟨.mapp 3,[(3,some (.map (esA m))),(0,some (.var true 99 (cellsIn own pe pol m))),(1,some (.var true 41 [.ptr 0 0])),(2,some (.var true 29 (cellsU false u)))],Ren.mapp rfl,(by repeat' (first|exact True.intro|exact Or.inr ⟨by decide,rfl⟩|exact Or.inl ⟨0,rfl,by omega,_,rfl,rfl,esA_free m⟩|refine⟨?_,?_⟩)),?_⟩
 conv=>whnf
 intro hgl
 have hgl:u.gone.length≤maxLen:=by simpa[gd]using hgl
 conv=>whnf
 refine vcg_loop tab_ok mixed (fun i:{i:Nat // i≤u.gone.length}=>⟨[(2,.ptr 1 0),(3,.ptr 2 0),(6,.ptr 4 0),(24,encPs false u.gone),(25,cI u.gone.length),(26,cI i.1)],[(0,some (.var true 99 (cellsIn own pe pol m))),(1,some (.var true 41 [.ptr 0 0])),(2,some (.var true 29 (cellsU false u))),(3,some (.map (esA (delsM m (u.gone.take i.1))))),(4,some (.var true 97 [.mapp 3]))],5⟩) (fun i=>u.gone.length - i.1) ⟨0,by omega⟩ (Wk.i (by repeat' (first|exact LHa|exact LeL.freeV (cellsIn_free own pe pol m)|exact LeL.freeV (cellsU_free false u)|exact .mapp rfl (by omega)|exact LeB.map rfl (esA_free _)|exact .int_of (by simp)|exact .A|exact LeL.fr rfl|exact LHb|refine Or.inl ⟨by simp,_,rfl,?_⟩|exact Or.inr ⟨by simp,_,_,_,_,rfl⟩|refine⟨rfl,rfl,rfl,rfl,rfl,rfl,?_⟩|refine⟨?_,?_⟩)) (by omega)) (fun i=>?_)
 obtain⟨i,hi⟩:=i
 conv=>whnf
 split
 ·rename_i hc
  have hc:i < u.gone.length:=by simpa using hc
  obtain⟨r,h1,h2⟩:=del_det (nod_dels (gone:=u.gone.take i) hm.1) u.gone[i]
  have hfr:∀kv∈mdel (esA (delsM m (u.gone.take i))) r,Free kv.1∧Free kv.2:=by rw[h2];exact esA_free _
  rw[← dels_succ m hc]at h2
  conv=>whnf
  refine ixK (idxP hc) ?_
  conv=>whnf
  refine⟨esA_keys _,keyP _,r,h1,?_⟩
  conv=>whnf
  exact⟨⟨i + 1,by omega⟩,(Wk.i (by repeat' (first|exact LHa|exact LeL.freeV (cellsIn_free own pe pol m)|exact LeL.freeV (cellsU_free false u)|exact .mapp rfl (by omega)|exact LeB.map h2 hfr|exact .int_of (wrap64_succ hc hgl)|exact .A|exact LeL.fr rfl|exact LHb|refine Or.inl ⟨by simp,_,rfl,?_⟩|exact Or.inr ⟨by simp,_,_,_,_,rfl⟩|refine⟨rfl,rfl,rfl,rfl,rfl,rfl,?_⟩|refine⟨?_,?_⟩)) (by omega)),by simp only;omega⟩
 rename_i hc
 have hc:i=u.gone.length:=by simp at hc;omega
 subst hc
 rw[List.take_length]
 conv=>whnf
 intro hnl
 have hnl:u.new.length≤maxLen:=by simpa[gd]using hnl
 conv=>whnf
 have hcp:=(copy_pure false u.attrs ha.1 ha.2.1 ha.2.2).weak (less_encA true)
 have hnd:=nod_dels (gone:=u.gone) hm.1
 refine vcg_loop tab_ok mixed (fun i:{i:Nat // i≤u.new.length}=>⟨[(2,.ptr 1 0),(3,.ptr 2 0),(6,.ptr 4 0),(34,encPs false u.new),(35,cI u.new.length),(36,cI i.1)],[(0,some (.var true 99 (cellsIn own pe pol m))),(1,some (.var true 41 [.ptr 0 0])),(2,some (.var true 29 (cellsU false u))),(3,some (.map (esA (putsM (delsM m u.gone) (u.new.take i.1) u.attrs)))),(4,some (.var true 97 [.mapp 3]))],5⟩) (fun i=>u.new.length - i.1) ⟨0,by omega⟩ (Wk.i (by repeat' (first|exact LHa|exact LeL.freeV (cellsIn_free own pe pol m)|exact LeL.freeV (cellsU_free false u)|exact .mapp rfl (by omega)|exact LeB.map rfl (esA_free _)|exact .int_of (by simp)|exact .A|exact LeL.fr rfl|exact LHb|refine Or.inl ⟨by simp,_,rfl,?_⟩|exact Or.inr ⟨by simp,_,_,_,_,rfl⟩|refine⟨rfl,rfl,rfl,rfl,rfl,rfl,?_⟩|refine⟨?_,?_⟩)) (by omega)) (fun i=>?_)
 obtain⟨i,hi⟩:=i
 conv=>whnf
 split
 ·rename_i hc
  have hc:i < u.new.length:=by simpa using hc
  obtain⟨r,h1,h2⟩:=put_det (nod_puts (new:=u.new.take i) (a:=u.attrs) hnd) u.new[i] u.attrs
  have hfr:∀kv∈mput (esA (putsM (delsM m u.gone) (u.new.take i) u.attrs)) (encP u.new[i]) (encA false u.attrs) r,Free kv.1∧Free kv.2:=by rw[h2];exact esA_free _
  rw[← puts_succ _ hc]at h2
  conv=>whnf
  refine ixK (idxP hc) ?_
  conv=>whnf
  refine⟨_,[],fun h nx _=>pureV_pure hcp ⟨.fr rfl,trivial⟩,by simp,?_⟩
  conv=>whnf
  refine⟨esA_keys _,keyP _,r,h1,?_⟩
  conv=>whnf
  refine⟨by kernel_rfl,?_⟩
  conv=>whnf
  exact⟨⟨i + 1,by omega⟩,(Wk.i (by repeat' (first|exact LHa|exact LeL.freeV (cellsIn_free own pe pol m)|exact LeL.freeV (cellsU_free false u)|exact .mapp rfl (by omega)|exact LeB.map h2 hfr|exact .int_of (wrap64_succ hc hnl)|exact .A|exact LeL.fr rfl|exact LHb|refine Or.inl ⟨by simp,_,rfl,?_⟩|exact Or.inr ⟨by simp,_,_,_,_,rfl⟩|refine⟨rfl,rfl,rfl,rfl,rfl,rfl,?_⟩|refine⟨?_,?_⟩)) (by omega)),by simp only;omega⟩
 rename_i hc
 have hc:i=u.new.length:=by simp at hc;omega
 subst hc
 rw[List.take_length]
 have hlen:(esA (putsM (delsM m u.gone) u.new u.attrs)).length=(takeM m u.gone u.new u.attrs).length:=by simp[esA,takeM]
 conv=>whnf
 split
 case' h_2 hh=>exfalso;have:=of_decide_eq_false hh;rw[hlen]at this;omega
 conv=>whnf
 exact⟨.tup [.snil,.int .i64 340],[(0,some (.var true 99 (cellsIn own pe pol m)))],1,(Ends.all id [] (by repeat' (first|exact LHa|exact LeL.freeV (cellsIn_free own pe pol m)|exact .A|exact LeL.fr rfl|exact LHb|refine Or.inl ⟨by simp,_,rfl,?_⟩|exact Or.inr ⟨by simp,_,_,_,_,rfl⟩|refine⟨rfl,rfl,rfl,rfl,rfl,rfl,?_⟩|refine⟨?_,?_⟩)) (fun _ _ _ _ h=>h) (fun _ _=>rfl) (by omega) (by simp)),rfl,rfl,rfl⟩
end
section
open Go.Proofs.Tryz (prog)
attribute [local irreducible] CallV RoundV aggK VC VM CallB
def outsC (a b:List (Prefix × Attrs)) (l:List Prefix):List Change:=l.filterMap (chg noA (getE a) (getE b))
theorem esA_cold (m:List (Prefix × Attrs)):∀kv∈esA m,Cold kv.1∧Cold kv.2:=by
 intro kv h
 obtain⟨e,_,rfl⟩:=List.mem_map.1 h
 exact⟨encP_cold _,encA_cold _⟩
theorem outsC_len (a b:List (Prefix × Attrs)) (l:List Prefix):(outsC a b l).length≤l.length:=List.length_filterMap_le _ _
theorem cellsCh_fresh (c:Change):∀v∈cellsCh true c,Fresh v:=by
 intro v hv
 have h:=encA_fresh c.attrs
 simp only[cellsCh,cellsP,List.mem_append,List.mem_cons,List.not_mem_nil,or_false]at hv
 rcases hv with((rfl|rfl)|rfl)|hv
 ·exact .int
 ·exact .int
 ·exact .bool
 ·simp[cellsA]at hv
  rcases hv with rfl|rfl|rfl|rfl|rfl|rfl|rfl|rfl
  all_goals first|exact .int|exact .bool|exact encLegs_fresh _|exact encW_fresh _
theorem encChs_fresh (l:List Change):Fresh (encChs true l):=.sl fun x hx v hv=>by
 obtain⟨c,_,rfl⟩:=List.mem_map.1 hx
 exact cellsCh_fresh c v hv
theorem LeB.arrE' {h:Heap} {nx nx':Nat} {ρ:Nat→Nat} {Z:List Nat} {fr fr' ex ex':Bool} {ty sz:Nat} {xs ys:List (List V)} (e:xs=ys) (hf:∀x∈ys,∀v∈x,Free v) (h1:fr'=true→fr=true) (h2:ex'=true→ex=true):LeB h nx ρ nx' Z (.arr fr ex ty sz xs) (.arr fr' ex' ty sz ys):=by
 subst e;exact .arrE rfl hf h1 h2
theorem rows_step {o o':List Change} {c:Change} {n:Nat} {r:List (List V)} (h:o'=o ++ [c]) (hn:n=o.length) (hr:r=[cellsCh true c]):List.take n (rowsCh true o)++ r=rowsCh true o':=by
 subst h;subst hn;subst hr
 rw[List.take_of_length_le (by simp[rowsCh])]
 simp[rowsCh]
theorem strict_sort {l:List Prefix} (h:l.Nodup):(sortPs l).Pairwise fun x y=>pkey x < pkey y:=by
 have hn:(sortPs l).Nodup:=(List.mergeSort_perm l _).nodup_iff.2 h
 exact(List.pairwise_and_iff.2 ⟨sortPs_sorted l,hn⟩).imp fun⟨h1,h2⟩=>by
  rcases Nat.lt_or_ge (pkey _) (pkey _)with h|h
  ·exact h
  ·exact absurd (pkey_inj (by omega)) h2
theorem mem_dd {l:List Prefix} {p:Prefix} (h:p∈l) (hr:prefOk p=true):p∈dd l:=by
 have keep:∀(l acc:List Prefix),p∈acc→p∈l.foldl ddS acc:=by
  intro l
  induction l with
  | nil=>intro acc h;exact h
  | cons x l ih=>intro acc h;refine ih _ ?_;unfold ddS;split<;>(try split)<;>simp[h]
 have key:∀(l acc:List Prefix),p∈l→p∈l.foldl ddS acc:=by
  intro l
  induction l with
  | nil=>intro acc h;cases h
  | cons x l ih=>
   intro acc h
   rcases List.mem_cons.1 h with rfl|h
   ·refine keep l _ ?_
    unfold ddS
    rw[if_pos hr]
    split
    ·assumption
    ·simp
   ·exact ih _ h
 exact key l [] h
theorem cnt_pref {own:UInt32} {pe:Peer} {pol:Policy} {p:Prefix} {a b:Attrs} (h:cnt own pe pol p a=some b):prefOk p=true:=by
 cases hp:prefOk p with
 | true=>rfl
 | false=>
  have e:byR pol own p (outA pe a)=(noA,false):=by rw[byR,if_pos (by rw[byE,if_pos (.inr (.inl hp))];decide)]
  simp[cnt,isC,e]at h
theorem outs_eq {own:UInt32} {pe:Peer} {pol pol':Policy} {m n w1 w2 all:List (Prefix × Attrs)} (hm:NodE m) (hn:NodE n) (h1:w1.Perm (cntE (cnt own pe pol) m)) (h2:w2.Perm (cntE (cnt own pe pol') n)) (ha:copyPost w1 w2 all) :
  outsC w1 w2 (sortPs (keysE all))=(sortPs (dd (keysE m ++ keysE n))).filterMap (chg noA (fun p=>(getE m p).bind (cnt own pe pol p)) (fun p=>(getE n p).bind (cnt own pe pol' p))):=by
 have e1:getE w1=fun p=>(getE m p).bind (cnt own pe pol p):=funext fun p=>(getE_perm (nod_cnt hm) h1.symm p).symm.trans (getE_cnt hm p)
 have e2:getE w2=fun p=>(getE n p).bind (cnt own pe pol' p):=funext fun p=>(getE_perm (nod_cnt hn) h2.symm p).symm.trans (getE_cnt hn p)
 rw[outsC,e1,e2]
 refine chg_unique (strict_sort (ha.1 ((nod_cnt hm).perm h1.symm))) (strict_sort (dd_nodup _)) fun p hne=>?_
 rw[mem_sortPs,mem_sortPs]
 have side:∀{pol:Policy} {w x:List (Prefix × Attrs)},(getE w=fun p=>(getE x p).bind (cnt own pe pol p))→(getE x p).bind (cnt own pe pol p) ≠ none→p∈keysE w∧p∈keysE x∧prefOk p=true:=by
  intro pol w x hw h
  cases hx:getE x p with
  | none=>rw[hx]at h;exact absurd rfl h
  | some a=>
   rw[hx]at h
   cases hc:cnt own pe pol p a with
   | none=>exact absurd hc h
   | some b=>
    have:getE w p=some b:=by rw[hw];simp[hx,hc]
    exact⟨getE_key this,getE_key hx,cnt_pref hc⟩
 cases hf:(getE m p).bind (cnt own pe pol p)with
 | some a=>
  obtain⟨q1,q2,q3⟩:=side e1 (by rw[hf];simp)
  exact⟨(ha.2.1 p).2 (.inl q1),mem_dd (by simp[q2]) q3⟩
 | none=>
  have hg:(getE n p).bind (cnt own pe pol' p) ≠ none:=fun hg=>hne (by rw[hf,hg])
  obtain⟨q1,q2,q3⟩:=side e2 hg
  exact⟨(ha.2.1 p).2 (.inr q1),mem_dd (by simp[q2]) q3⟩
theorem callV_same {P:Program} {f:FuncId} {args:List V} {h h':Heap} {nx:Nat} {R:V→Heap→Nat→Prop} (hh:∀b,hget h' b=hget h b) (hc:CallV P f args h' nx R):CallV P f args h nx R:=
 by
 unfold CallV at *
 exact⟨hc.1,fun G w us hr hv=>hc.2 G w us (hr.congr hh (Nat.le_refl _)) hv⟩
def DoC (k:FuncId) (caps:List V) (b1 b2:Option Blk) (C C':List V):Prop:=
 CallV prog k caps ((0,some (.var true 99 C)) :: (3,some (.var true 46 [.snil])) :: [(1,b1),(2,b2)]) 4 (fun v h nx=>v=.tup []∧h=[(0,some (.var true 99 C')),(3,some (.var true 46 [.snil]))]∧nx=4)
def chgs (own:UInt32) (pe:Peer) (pol pol':Policy) (m n:List (Prefix × Attrs)):List Change:=
 (sortPs (dd (keysE m ++ keysE n))).filterMap (chg noA (fun p=>(getE m p).bind (cnt own pe pol p)) (fun p=>(getE n p).bind (cnt own pe pol' p)))
theorem changed_B {own:UInt32} {pe:Peer} {pol pol':Policy} {m n:List (Prefix × Attrs)} (hm:okM own pe pol m) (hn:okM own pe pol' n) {k:FuncId} {caps:List V} {b1 b2:Option Blk} (hdo:DoC k caps b1 b2 (cellsIn own pe pol m) (cellsIn own pe pol' n)) :
  CallB prog 41 [.ptr 0 0,.fn (.func k) [] caps] ((0,some (.var true 99 (cellsIn own pe pol m))) :: [(1,b1),(2,b2)]) 3
   (fun v h nx=>v=encChs true (chgs own pe pol pol' m n)∧h=[(0,some (.var true 99 (cellsIn own pe pol' n)))]∧nx=4):=by
 have hF:FW Fence.wide:=.inl rfl
 refine callB_of_vm (fn:=Go.Proofs.Tryz.f41) (body:=_) tab_ok rfl rfl (by simp[Go.Proofs.Tryz.f41]) (Nat.le_of_ble_eq_true rfl) ?_
 refine vm_seq (vcg_ok (rd:=false) tab_ok mixed hF (fun _=>rfl) ?_)
 conv=>whnf
 refine vm_seq (vcg_ok (rd:=false) tab_ok mixed hF (fun _=>rfl) ?_)
 conv=>whnf
 refine callV_in (counted_ok hm) rfl (cellsIn_free _ _ _ _) (cellsIn_free _ _ _ _) ⟨.ptr rfl (by omega),trivial⟩ ?_
 rintro v ⟨w1,rfl,hw1⟩
 refine⟨imapA_free _,?_⟩
 show _
 conv=>whnf
 refine vm_seq (vcg_ok (rd:=false) tab_ok mixed hF (fun _=>rfl) ?_)
 conv=>whnf
 refine callV_same (h':=(0,some (.var true 99 (cellsIn own pe pol m))) :: (3,some (.var true 46 [.snil])) :: [(1,b1),(2,b2)]) (fun b=>by
  simp only[hget_cons]
  repeat' split
  all_goals first|rfl|(exfalso;omega)) (CallV.mono hdo ?_)
 rintro v h' nx' ⟨rfl,rfl,rfl⟩
 conv=>whnf
 refine vm_seq (vcg_ok (rd:=false) tab_ok mixed hF (fun _=>rfl) ?_)
 conv=>whnf
 refine callV_in (counted_ok hn) rfl (cellsIn_free _ _ _ _) (cellsIn_free _ _ _ _) ⟨.ptr rfl (by omega),trivial⟩ ?_
 rintro v ⟨w2,rfl,hw2⟩
 refine⟨imapA_free _,?_⟩
 show _
 conv=>whnf
 refine vm_mark' (fun b=>b == 3) 4 [(4,.ptr 3 0),(5,.imap false (esA w1)),(6,.imap false (esA w2))] [(3,some (.var false 46 [.snil]))] [(0,some (.var true 99 (cellsIn own pe pol' n)))] rfl ⟨⟨rfl,.inr ⟨3,0,rfl,rfl⟩⟩,⟨rfl,.inl ⟨imapA_free _,Cold.imap (esA_cold _)⟩⟩,⟨rfl,.inl ⟨imapA_free _,Cold.imap (esA_cold _)⟩⟩,trivial⟩ ⟨⟨rfl,rfl,⟨true,rfl⟩,by simp;exact⟨.snil,.snil⟩⟩,trivial⟩ ⟨⟨rfl,rfl⟩,trivial⟩ ?_
 refine vcg_ok (rd:=false) tab_ok mixed hF (fun _=>rfl) ?_
 conv=>whnf
 refine callV_frame (nx:=4) (n0:=0) id (cloneA_own false (esA w1)) ⟨.fr rfl,trivial⟩ (LeH.nil (by omega) (fun _ h=>by omega) (by simp)) (fun b hb=>by omega) (fun b hb=>by omega) ?_
 rintro v h' nx' ⟨rfl,rfl,rfl⟩ _
 refine⟨.mapp 4,[(4,some (.map (esA w1))),(3,some (.var false 46 [.snil]))],Ren.mapp rfl,(by repeat' (first|exact True.intro|exact Or.inr ⟨by decide,rfl⟩|exact Or.inl ⟨0,rfl,by omega,_,rfl,rfl,esA_free _⟩|refine⟨?_,?_⟩)),?_⟩
 conv=>whnf
 refine callV_frame (nx:=5) (n0:=1) (renOf [(0,4)]) (mcopy_ok w1 w2) (by repeat' (first|exact True.intro|exact .mapp rfl (by omega)|exact LeB.map rfl (esA_free _)|exact .A|exact LeL.fr rfl|refine⟨?_,?_⟩)) (LeH.of (by repeat' (first|exact LHa|exact .mapp rfl (by omega)|exact LeB.map rfl (esA_free _)|exact .A|exact LeL.fr rfl|exact LHb|refine Or.inl ⟨by simp,_,rfl,?_⟩|exact Or.inr ⟨by simp,_,_,_,_,rfl⟩|refine⟨rfl,rfl,rfl,rfl,rfl,rfl,?_⟩|refine⟨?_,?_⟩)) (show ∀b∈([0]:List Nat),∀b'∈([0]:List Nat),(renOf [(0,4)]) b=(renOf [(0,4)]) b'→b=b' by decide) (fun _ h=>by omega) (by omega) (by simp)) (fun b hb=>by match b,hb with|0,_=>exact ne_none_of rfl) (by decide) ?_
 rintro v h' nx' ⟨rfl,⟨all,hall,rfl⟩,rfl⟩ _
 refine⟨.tup [],[(4,some (.map (esA all))),(3,some (.var false 46 [.snil]))],.free (.tup (by simp)),(by repeat' (first|exact True.intro|exact Or.inr ⟨by decide,rfl⟩|exact Or.inl ⟨0,rfl,by omega,_,rfl,rfl,esA_free _⟩|refine⟨?_,?_⟩)),?_⟩
 have hl1:w1.length≤400:=Nat.le_trans (Nat.le_of_eq hw1.length_eq) (Nat.le_trans (List.length_filterMap_le _ _) hm.2.1)
 have hl2:w2.length≤400:=Nat.le_trans (Nat.le_of_eq hw2.length_eq) (Nat.le_trans (List.length_filterMap_le _ _) hn.2.1)
 have hlen:all.length≤1000:=by have:=hall.2.2;omega
 conv=>whnf
 refine callV_lend [4] (sortedA_ok all hlen) ⟨LeV.freezeM (by simp) rfl rfl (esA_free _),trivial⟩ (by intro v hv;obtain rfl:=List.mem_singleton.1 hv;exact Cold.imap (esA_cold _)) (one_none rfl) (encPs_fresh _) ?_
 conv=>whnf
 have small:∀{pol:Policy} {w x:List (Prefix × Attrs)},okM own pe pol x→w.Perm (cntE (cnt own pe pol) x)→∀p b,getE w p=some b→smallA b:=fun hx hw p b hb=>by
  have h1:=hw.mem_iff.1 (getE_mem hb)
  simp only[cntE,List.mem_filterMap,Option.map_eq_some_iff]at h1
  obtain⟨e,he,b',hb',e2⟩:=h1
  cases e2
  exact(hx.2.2 e he).2 _ hb'
 have sm1:=small hm hw1
 have sm2:=small hn hw2
 have hl:(sortPs (keysE all)).length≤1000:=by rw[sortPs_len,keysE,List.length_map];exact hlen
 have hout:=outs_eq hm.1 hn.1 hw1 hw2 hall
 generalize sortPs (keysE all)=l at *
 intro hgl
 have hgl:l.length≤maxLen:=by simpa[gd]using hgl
 conv=>whnf
 refine vcg_loop tab_ok mixed (fun i:{i:Nat // i≤l.length}=>⟨[(4,.ptr 3 0),(5,.imap false (esA w1)),(6,.imap false (esA w2)),(7,.fn (.func 81) [] [.ptr 3 0]),(28,encPs true l),(29,cI l.length),(30,cI i.1)],[(3,some (.var false 46 [.osl 5 11 0 (outsC w1 w2 (l.take i.1)).length])),(5,some (.arr true false 57 11 (rowsCh true (outsC w1 w2 (l.take i.1)))))],6⟩) (fun i=>l.length - i.1) ⟨0,by omega⟩ (Wk.i (by repeat' (first|exact LHa|exact .fnL trivial ⟨.ptr rfl (by omega),trivial⟩|exact .int_of (by simp)|exact .osl0|exact .A|exact LeL.fr rfl|exact LHb|refine Or.inl ⟨by simp,_,rfl,?_⟩|exact Or.inr ⟨by simp,_,_,_,_,rfl⟩|refine⟨rfl,rfl,rfl,rfl,rfl,rfl,?_⟩|refine⟨?_,?_⟩)) (by omega)) (fun i=>?_)
 obtain⟨i,hi⟩:=i
 conv=>whnf
 split
 ·rename_i hc
  have hc:i < l.length:=by simpa using hc
  have hol:(outsC w1 w2 (l.take i)).length≤1000:=Nat.le_trans (outsC_len _ _ _) (by rw[List.length_take];omega)
  conv=>whnf
  refine ixK (idxP hc) ?_
  have hsu:outsC w1 w2 (l.take (i + 1))=outsC w1 w2 (l.take i)++ (match chg noA (getE w1) (getE w2) l[i]with|none=>[]|some c=>[c]):=by
   rw[outsC,List.take_succ_eq_append_getElem hc,List.filterMap_append]
   congr 1
   cases h:chg noA (getE w1) (getE w2) l[i]<;>simp[h]
  cases g1:getE w1 l[i]with
  | none=>
   cases g2:getE w2 l[i]with
   | none=>
    have hx:outsC w1 w2 (l.take (i + 1))=outsC w1 w2 (l.take i):=by rw[hsu,chg,if_pos (by rw[g1,g2])];simp
    have sm:=same_ok true true noA noA
    rw[sameA_refl]at sm
    conv=>whnf
    refine⟨esA_keys _,keyP _,none,look_none g1,?_⟩
    conv=>whnf
    refine⟨esA_keys _,keyP _,none,look_none g2,?_⟩
    conv=>whnf
    refine callV_pure sm ⟨.noA,.noA,trivial⟩ ?_
    conv=>whnf
    exact⟨⟨i + 1,by omega⟩,(Wk.i (by repeat' (first|exact LHa|exact .fnL trivial ⟨.ptr rfl (by omega),trivial⟩|exact .int_of (wrap64_succ hc hgl)|exact .osl_of rfl (by omega) (by rw[hx])|exact LeB.arrE (by rw[hx]) (rowsCh_free _ _) id id|exact .A|exact LeL.fr rfl|exact LHb|refine Or.inl ⟨by simp,_,rfl,?_⟩|exact Or.inr ⟨by simp,_,_,_,_,rfl⟩|refine⟨rfl,rfl,rfl,rfl,rfl,rfl,?_⟩|refine⟨?_,?_⟩)) (by omega)),by simp only;omega⟩
   | some b=>
    have hx:outsC w1 w2 (l.take (i + 1))=outsC w1 w2 (l.take i)++ [⟨l[i],true,b⟩]:=by rw[hsu,chg,if_neg (by rw[g1,g2];simp),g2];rfl
    conv=>whnf
    refine⟨esA_keys _,keyP _,none,look_none g1,?_⟩
    conv=>whnf
    refine⟨esA_keys _,keyP _,some (encA false b),look_some g2,?_⟩
    conv=>whnf
    refine⟨_,[],fun h nx _=>pureV_pure (copy_pure false b (sm2 _ _ g2).1 (sm2 _ _ g2).2.1 (sm2 _ _ g2).2.2) ⟨.fr rfl,trivial⟩,by simp,?_⟩
    conv=>whnf
    refine⟨by kernel_rfl,?_⟩
    conv=>whnf
    refine callV_of (fn:=Go.Proofs.Tryz.f81) (body:=_) tab_ok mixed rfl rfl (by decide) (by simp[Go.Proofs.Tryz.f81]) ?_
    conv=>whnf
    refine⟨rfl,by simp,⟨rfl,rfl,rfl,rfl,by decide⟩,by simp[rowsCh],⟨by simp[tab,tabOf,nth];omega,by simp;omega⟩,?_⟩
    conv=>whnf
    refine⟨_,_,_,Ends.here,?_⟩
    conv=>whnf
    exact⟨⟨i + 1,by omega⟩,(Wk.all (renOf [(5,10)]) [] (by repeat' (first|exact LHa|exact .fnL trivial ⟨.ptr rfl (by omega),trivial⟩|exact .int_of (wrap64_succ hc hgl)|exact .osl_of rfl (by omega) (by rw[hx];simp)|exact LeB.arrE' (rows_step hx rfl rfl) (rowsCh_free _ _) id id|exact .A|exact LeL.fr rfl|exact LHb|refine Or.inl ⟨by simp,_,rfl,?_⟩|exact Or.inr ⟨by simp,_,_,_,_,rfl⟩|refine⟨rfl,rfl,rfl,rfl,rfl,rfl,?_⟩|refine⟨?_,?_⟩)) (show ∀b∈([3,5]:List Nat),∀b'∈([3,5]:List Nat),(renOf [(5,10)]) b=(renOf [(5,10)]) b'→b=b' by decide) (fun _ h=>by omega) (by omega) (by simp)),by simp only;omega⟩
  | some a=>
   cases g2:getE w2 l[i]with
   | none=>
    have hx:outsC w1 w2 (l.take (i + 1))=outsC w1 w2 (l.take i)++ [⟨l[i],false,noA⟩]:=by rw[hsu,chg,if_neg (by rw[g1,g2];simp),g2];rfl
    conv=>whnf
    refine⟨esA_keys _,keyP _,some (encA false a),look_some g1,?_⟩
    conv=>whnf
    refine⟨esA_keys _,keyP _,none,look_none g2,?_⟩
    conv=>whnf
    refine⟨_,[],fun h nx _=>pureV_pure (copy_pure false noA (by simp[noA]) (by simp[noA]) (by simp[noA])) ⟨.noA,trivial⟩,by simp,?_⟩
    conv=>whnf
    refine⟨by kernel_rfl,?_⟩
    conv=>whnf
    refine callV_of (fn:=Go.Proofs.Tryz.f81) (body:=_) tab_ok mixed rfl rfl (by decide) (by simp[Go.Proofs.Tryz.f81]) ?_
    conv=>whnf
    refine⟨rfl,by simp,⟨rfl,rfl,rfl,rfl,by decide⟩,by simp[rowsCh],⟨by simp[tab,tabOf,nth];omega,by simp;omega⟩,?_⟩
    conv=>whnf
    refine⟨_,_,_,Ends.here,?_⟩
    conv=>whnf
    exact⟨⟨i + 1,by omega⟩,(Wk.all (renOf [(5,10)]) [] (by repeat' (first|exact LHa|exact .fnL trivial ⟨.ptr rfl (by omega),trivial⟩|exact .int_of (wrap64_succ hc hgl)|exact .osl_of rfl (by omega) (by rw[hx];simp)|exact LeB.arrE' (rows_step hx rfl rfl) (rowsCh_free _ _) id id|exact .A|exact LeL.fr rfl|exact LHb|refine Or.inl ⟨by simp,_,rfl,?_⟩|exact Or.inr ⟨by simp,_,_,_,_,rfl⟩|refine⟨rfl,rfl,rfl,rfl,rfl,rfl,?_⟩|refine⟨?_,?_⟩)) (show ∀b∈([3,5]:List Nat),∀b'∈([3,5]:List Nat),(renOf [(5,10)]) b=(renOf [(5,10)]) b'→b=b' by decide) (fun _ h=>by omega) (by omega) (by simp)),by simp only;omega⟩
   | some b=>
    have sm:=same_ok false false a b
    cases hab:sameA a b with
    | true=>
     have hx:outsC w1 w2 (l.take (i + 1))=outsC w1 w2 (l.take i):=by rw[hsu,chg,if_pos (by rw[g1,g2,of_decide_eq_true hab])];simp
     rw[hab]at sm
     conv=>whnf
     refine⟨esA_keys _,keyP _,some (encA false a),look_some g1,?_⟩
     conv=>whnf
     refine⟨esA_keys _,keyP _,some (encA false b),look_some g2,?_⟩
     conv=>whnf
     refine callV_pure sm ⟨.fr rfl,.fr rfl,trivial⟩ ?_
     conv=>whnf
     exact⟨⟨i + 1,by omega⟩,(Wk.i (by repeat' (first|exact LHa|exact .fnL trivial ⟨.ptr rfl (by omega),trivial⟩|exact .int_of (wrap64_succ hc hgl)|exact .osl_of rfl (by omega) (by rw[hx])|exact LeB.arrE (by rw[hx]) (rowsCh_free _ _) id id|exact .A|exact LeL.fr rfl|exact LHb|refine Or.inl ⟨by simp,_,rfl,?_⟩|exact Or.inr ⟨by simp,_,_,_,_,rfl⟩|refine⟨rfl,rfl,rfl,rfl,rfl,rfl,?_⟩|refine⟨?_,?_⟩)) (by omega)),by simp only;omega⟩
    | false=>
     have hx:outsC w1 w2 (l.take (i + 1))=outsC w1 w2 (l.take i)++ [⟨l[i],true,b⟩]:=by rw[hsu,chg,if_neg (by rw[g1,g2];intro e;exact of_decide_eq_false hab (Option.some.inj e)),g2];rfl
     rw[hab]at sm
     conv=>whnf
     refine⟨esA_keys _,keyP _,some (encA false a),look_some g1,?_⟩
     conv=>whnf
     refine⟨esA_keys _,keyP _,some (encA false b),look_some g2,?_⟩
     conv=>whnf
     refine callV_pure sm ⟨.fr rfl,.fr rfl,trivial⟩ ?_
     conv=>whnf
     refine⟨_,[],fun h nx _=>pureV_pure (copy_pure false b (sm2 _ _ g2).1 (sm2 _ _ g2).2.1 (sm2 _ _ g2).2.2) ⟨.fr rfl,trivial⟩,by simp,?_⟩
     conv=>whnf
     refine⟨by kernel_rfl,?_⟩
     conv=>whnf
     refine callV_of (fn:=Go.Proofs.Tryz.f81) (body:=_) tab_ok mixed rfl rfl (by decide) (by simp[Go.Proofs.Tryz.f81]) ?_
     conv=>whnf
     refine⟨rfl,by simp,⟨rfl,rfl,rfl,rfl,by decide⟩,by simp[rowsCh],⟨by simp[tab,tabOf,nth];omega,by simp;omega⟩,?_⟩
     conv=>whnf
     refine⟨_,_,_,Ends.here,?_⟩
     conv=>whnf
     exact⟨⟨i + 1,by omega⟩,(Wk.all (renOf [(5,10)]) [] (by repeat' (first|exact LHa|exact .fnL trivial ⟨.ptr rfl (by omega),trivial⟩|exact .int_of (wrap64_succ hc hgl)|exact .osl_of rfl (by omega) (by rw[hx];simp)|exact LeB.arrE' (rows_step hx rfl rfl) (rowsCh_free _ _) id id|exact .A|exact LeL.fr rfl|exact LHb|refine Or.inl ⟨by simp,_,rfl,?_⟩|exact Or.inr ⟨by simp,_,_,_,_,rfl⟩|refine⟨rfl,rfl,rfl,rfl,rfl,rfl,?_⟩|refine⟨?_,?_⟩)) (show ∀b∈([3,5]:List Nat),∀b'∈([3,5]:List Nat),(renOf [(5,10)]) b=(renOf [(5,10)]) b'→b=b' by decide) (fun _ h=>by omega) (by omega) (by simp)),by simp only;omega⟩
 rename_i hc
 have hc:i=l.length:=by simp at hc;omega
 subst hc
 rw[List.take_length]
 conv=>whnf
 refine⟨encChs true (outsC w1 w2 l),[],0,Ends.of id [5] (.freeze_of (by simp) rfl (by simp[rowsCh]) (rowsCh_free _ _) (by rw[List.drop_zero,List.take_of_length_le (by simp[rowsCh])])) (LeH.nil (Nat.le_refl _) (fun b hb=>by omega) (by intro z hz;simp at hz;subst hz;simp[hget])),encChs_free _ _,encChs_fresh _,?_,rfl,rfl⟩
 exact congrArg _ hout
end
section
open Go.Proofs.Tryz (prog)
attribute [local irreducible] CallV RoundV aggK VC VM CallB
theorem doTake {own:UInt32} {pe:Peer} {pol:Policy} {m n:List (Prefix × Attrs)}:DoC 42 [.ptr 2 0,.ptr 1 0] (some (.var true 41 [.ptr 0 0])) (some (.var true 97 [.imap false (esA n)])) (cellsIn own pe pol m) (cellsIn own pe pol n):=by
 unfold DoC
 refine callV_of (fn:=Go.Proofs.Tryz.f42) (body:=_) tab_ok mixed rfl rfl (by decide) (by simp[Go.Proofs.Tryz.f42]) ?_
 conv=>whnf
 exact⟨.tup [],[(0,some (.var true 99 (cellsIn own pe pol n))),(3,some (.var true 46 [.snil]))],4,(Ends.all id [] (by repeat' (first|exact LHa|exact LeL.freeV (cellsIn_free own pe pol n)|exact .A|exact LeL.fr rfl|exact LHb|refine Or.inl ⟨by simp,_,rfl,?_⟩|exact Or.inr ⟨by simp,_,_,_,_,rfl⟩|refine⟨rfl,rfl,rfl,rfl,rfl,rfl,?_⟩|refine⟨?_,?_⟩)) (fun _ _ _ _ h=>h) (fun _ _=>rfl) (by omega) (by simp)),rfl,rfl,rfl⟩
theorem take_B {own:UInt32} {pe:Peer} {pol:Policy} {m:List (Prefix × Attrs)} (hm:okM own pe pol m) (u:Upd) (hs:Small u) (hc:checkU u=0) (ha:smallA u.attrs) (hl:(takeM m u.gone u.new u.attrs).length≤64) (hn:okM own pe pol (takeM m u.gone u.new u.attrs)) :
  CallB prog 14 [.ptr 0 0,encU false u] [(0,some (.var true 99 (cellsIn own pe pol m)))] 1
   (fun v h nx=>v=.tup [encChs true (chgs own pe pol pol m (takeM m u.gone u.new u.attrs)),.int .i64 0]∧h=[(0,some (.var true 99 (cellsIn own pe pol (takeM m u.gone u.new u.attrs))))]∧nx=6):=by
 have cu:=ucheck_ok false u hs
 rw[hc]at cu
 have hF:FW Fence.wide:=.inl rfl
 refine callB_of_vm (fn:=Go.Proofs.Tryz.f14) (body:=_) tab_ok rfl rfl (by simp[Go.Proofs.Tryz.f14]) (Nat.le_of_ble_eq_true rfl) ?_
 refine vm_seq (vcg_ok (rd:=false) tab_ok mixed hF (fun _=>rfl) ?_)
 conv=>whnf
 refine vm_seq (vcg_ok (rd:=false) tab_ok mixed hF (fun _=>rfl) ?_)
 conv=>whnf
 refine callV_in (none_ok own pe pol m) rfl (cellsIn_free _ _ _ _) (cellsIn_free _ _ _ _) ⟨.ptr rfl (by omega),trivial⟩ ?_
 rintro v rfl
 refine⟨.bool,?_⟩
 show _
 conv=>whnf
 refine callV_pure cu ⟨.fr rfl,trivial⟩ ?_
 conv=>whnf
 refine vm_seq (vcg_ok (rd:=false) tab_ok mixed hF (fun _=>rfl) ?_)
 conv=>whnf
 refine callV_frame (nx:=3) (n0:=0) id (cloneA_own false (esA m)) ⟨.fr rfl,trivial⟩ (LeH.nil (by omega) (fun _ h=>by omega) (by simp)) (fun b hb=>by omega) (fun b hb=>by omega) ?_
 rintro v h' nx' ⟨rfl,rfl,rfl⟩ _
 refine⟨.mapp 3,[(3,some (.map (esA m))),(0,some (.var true 99 (cellsIn own pe pol m))),(1,some (.var true 41 [.ptr 0 0])),(2,some (.var true 29 (cellsU false u)))],Ren.mapp rfl,(by repeat' (first|exact True.intro|exact Or.inr ⟨by decide,rfl⟩|exact Or.inl ⟨0,rfl,by omega,_,rfl,rfl,esA_free m⟩|refine⟨?_,?_⟩)),?_⟩
 conv=>whnf
 refine vm_seq (vcg_ok (rd:=false) tab_ok mixed hF (fun _=>rfl) ?_)
 conv=>whnf
 intro hgl
 have hgl:u.gone.length≤maxLen:=by simpa[gd]using hgl
 conv=>whnf
 refine vcg_loop tab_ok mixed (fun i:{i:Nat // i≤u.gone.length}=>⟨[(2,.ptr 1 0),(3,.ptr 2 0),(6,.ptr 4 0),(24,encPs false u.gone),(25,cI u.gone.length),(26,cI i.1)],[(0,some (.var true 99 (cellsIn own pe pol m))),(1,some (.var true 41 [.ptr 0 0])),(2,some (.var true 29 (cellsU false u))),(3,some (.map (esA (delsM m (u.gone.take i.1))))),(4,some (.var true 97 [.mapp 3]))],5⟩) (fun i=>u.gone.length - i.1) ⟨0,by omega⟩ (Wk.i (by repeat' (first|exact LHa|exact LeL.freeV (cellsIn_free own pe pol m)|exact LeL.freeV (cellsU_free false u)|exact .mapp rfl (by omega)|exact LeB.map rfl (esA_free _)|exact .int_of (by simp)|exact .A|exact LeL.fr rfl|exact LHb|refine Or.inl ⟨by simp,_,rfl,?_⟩|exact Or.inr ⟨by simp,_,_,_,_,rfl⟩|refine⟨rfl,rfl,rfl,rfl,rfl,rfl,?_⟩|refine⟨?_,?_⟩)) (by omega)) (fun i=>?_)
 obtain⟨i,hi⟩:=i
 conv=>whnf
 split
 ·rename_i hc
  have hc:i < u.gone.length:=by simpa using hc
  obtain⟨r,h1,h2⟩:=del_det (nod_dels (gone:=u.gone.take i) hm.1) u.gone[i]
  have hfr:∀kv∈mdel (esA (delsM m (u.gone.take i))) r,Free kv.1∧Free kv.2:=by rw[h2];exact esA_free _
  rw[← dels_succ m hc]at h2
  conv=>whnf
  refine ixK (idxP hc) ?_
  conv=>whnf
  refine⟨esA_keys _,keyP _,r,h1,?_⟩
  conv=>whnf
  exact⟨⟨i + 1,by omega⟩,(Wk.i (by repeat' (first|exact LHa|exact LeL.freeV (cellsIn_free own pe pol m)|exact LeL.freeV (cellsU_free false u)|exact .mapp rfl (by omega)|exact LeB.map h2 hfr|exact .int_of (wrap64_succ hc hgl)|exact .A|exact LeL.fr rfl|exact LHb|refine Or.inl ⟨by simp,_,rfl,?_⟩|exact Or.inr ⟨by simp,_,_,_,_,rfl⟩|refine⟨rfl,rfl,rfl,rfl,rfl,rfl,?_⟩|refine⟨?_,?_⟩)) (by omega)),by simp only;omega⟩
 rename_i hc
 have hc:i=u.gone.length:=by simp at hc;omega
 subst hc
 rw[List.take_length]
 conv=>whnf
 refine vm_seq (vcg_ok (rd:=false) tab_ok mixed hF (fun _=>rfl) ?_)
 conv=>whnf
 intro hnl
 have hnl:u.new.length≤maxLen:=by simpa[gd]using hnl
 conv=>whnf
 have hcp:=(copy_pure false u.attrs ha.1 ha.2.1 ha.2.2).weak (less_encA true)
 have hnd:=nod_dels (gone:=u.gone) hm.1
 refine vcg_loop tab_ok mixed (fun i:{i:Nat // i≤u.new.length}=>⟨[(2,.ptr 1 0),(3,.ptr 2 0),(6,.ptr 4 0),(34,encPs false u.new),(35,cI u.new.length),(36,cI i.1)],[(0,some (.var true 99 (cellsIn own pe pol m))),(1,some (.var true 41 [.ptr 0 0])),(2,some (.var true 29 (cellsU false u))),(3,some (.map (esA (putsM (delsM m u.gone) (u.new.take i.1) u.attrs)))),(4,some (.var true 97 [.mapp 3]))],5⟩) (fun i=>u.new.length - i.1) ⟨0,by omega⟩ (Wk.i (by repeat' (first|exact LHa|exact LeL.freeV (cellsIn_free own pe pol m)|exact LeL.freeV (cellsU_free false u)|exact .mapp rfl (by omega)|exact LeB.map rfl (esA_free _)|exact .int_of (by simp)|exact .A|exact LeL.fr rfl|exact LHb|refine Or.inl ⟨by simp,_,rfl,?_⟩|exact Or.inr ⟨by simp,_,_,_,_,rfl⟩|refine⟨rfl,rfl,rfl,rfl,rfl,rfl,?_⟩|refine⟨?_,?_⟩)) (by omega)) (fun i=>?_)
 obtain⟨i,hi⟩:=i
 conv=>whnf
 split
 ·rename_i hc
  have hc:i < u.new.length:=by simpa using hc
  obtain⟨r,h1,h2⟩:=put_det (nod_puts (new:=u.new.take i) (a:=u.attrs) hnd) u.new[i] u.attrs
  have hfr:∀kv∈mput (esA (putsM (delsM m u.gone) (u.new.take i) u.attrs)) (encP u.new[i]) (encA false u.attrs) r,Free kv.1∧Free kv.2:=by rw[h2];exact esA_free _
  rw[← puts_succ _ hc]at h2
  conv=>whnf
  refine ixK (idxP hc) ?_
  conv=>whnf
  refine⟨_,[],fun h nx _=>pureV_pure hcp ⟨.fr rfl,trivial⟩,by simp,?_⟩
  conv=>whnf
  refine⟨esA_keys _,keyP _,r,h1,?_⟩
  conv=>whnf
  refine⟨by kernel_rfl,?_⟩
  conv=>whnf
  exact⟨⟨i + 1,by omega⟩,(Wk.i (by repeat' (first|exact LHa|exact LeL.freeV (cellsIn_free own pe pol m)|exact LeL.freeV (cellsU_free false u)|exact .mapp rfl (by omega)|exact LeB.map h2 hfr|exact .int_of (wrap64_succ hc hnl)|exact .A|exact LeL.fr rfl|exact LHb|refine Or.inl ⟨by simp,_,rfl,?_⟩|exact Or.inr ⟨by simp,_,_,_,_,rfl⟩|refine⟨rfl,rfl,rfl,rfl,rfl,rfl,?_⟩|refine⟨?_,?_⟩)) (by omega)),by simp only;omega⟩
 rename_i hc
 have hc:i=u.new.length:=by simp at hc;omega
 subst hc
 rw[List.take_length]
 have hlen:(esA (putsM (delsM m u.gone) u.new u.attrs)).length=(takeM m u.gone u.new u.attrs).length:=by simp[esA,takeM]
 conv=>whnf
 refine vm_seq (vcg_ok (rd:=false) tab_ok mixed hF (fun _=>rfl) ?_)
 conv=>whnf
 split
 case' h_1 hh=>exfalso;have:=of_decide_eq_true hh;rw[hlen]at this;omega
 conv=>whnf
 have hfin:esA (putsM (delsM m u.gone) u.new u.attrs)=esA (takeM m u.gone u.new u.attrs):=rfl
 generalize takeM m u.gone u.new u.attrs=n at *
 refine vm_weak (s':=⟨[(2,.ptr 1 0),(6,.ptr 4 0)],[(0,some (.var true 99 (cellsIn own pe pol m))),(1,some (.var true 41 [.ptr 0 0])),(4,some (.var true 97 [.imap false (esA n)]))],5⟩) (Wk.all id [3] (by repeat' (first|exact LHa|exact LeL.freeV (cellsIn_free own pe pol m)|exact LeV.freezeM (by simp) rfl hfin (esA_free _)|exact .A|exact LeL.fr rfl|exact LHb|refine Or.inl ⟨by simp,_,rfl,?_⟩|exact Or.inr ⟨by simp,_,_,_,_,rfl⟩|refine⟨rfl,rfl,rfl,rfl,rfl,rfl,?_⟩|refine⟨?_,?_⟩)) (fun _ _ _ _ h=>h) (fun _ _=>rfl) (by omega) (by intro z hz;simp only[List.mem_cons,List.not_mem_nil,or_false]at hz;rcases hz with rfl<;>exact ne_none_of rfl)) ?_
 refine vm_then (vm_call tab_ok hF (m:=2) (fid:=41) (d:=51) (by decide) rfl rfl rfl rfl rfl (by decide) ?_)
 conv=>whnf
 refine⟨_,rfl,?_⟩
 refine callB_frame (nx:=5) (n0:=3) (renOf [(2,4)]) (changed_B hm hn doTake) (by repeat' (first|exact True.intro|exact LeL.freeV (cellsIn_free own pe pol m)|exact .fnL trivial ⟨.ptr rfl (by omega),.ptr rfl (by omega),trivial⟩|exact LeV.freeV (imapA_free n)|exact .free (imapA_free n)|exact .A|exact LeL.fr rfl|refine⟨?_,?_⟩)) (LeH.of (by repeat' (first|exact LHa|exact LeL.freeV (cellsIn_free own pe pol m)|exact .fnL trivial ⟨.ptr rfl (by omega),.ptr rfl (by omega),trivial⟩|exact LeV.freeV (imapA_free n)|exact .free (imapA_free n)|exact .A|exact LeL.fr rfl|exact LHb|refine Or.inl ⟨by simp,_,rfl,?_⟩|exact Or.inr ⟨by simp,_,_,_,_,rfl⟩|refine⟨rfl,rfl,rfl,rfl,rfl,rfl,?_⟩|refine⟨?_,?_⟩)) (show ∀b∈([0,1,2]:List Nat),∀b'∈([0,1,2]:List Nat),(renOf [(2,4)]) b=(renOf [(2,4)]) b'→b=b' by decide) (fun _ h=>by omega) (by omega) (by simp)) (fun b hb=>by match b,hb with|0,_=>exact ne_none_of rfl|1,_=>exact ne_none_of rfl|2,_=>exact ne_none_of rfl) (by decide) ?_
 rintro v h' nx' ⟨rfl,rfl,rfl⟩ _
 refine⟨[(0,some (.var true 99 (cellsIn own pe pol n)))],(by repeat' (first|exact True.intro|exact Or.inr ⟨by decide,rfl⟩|exact Or.inl ⟨0,rfl,by omega,_,rfl,.var (cellsIn_free own pe pol n)⟩|refine⟨?_,?_⟩)),?_⟩
 intro u'
 refine⟨[],trivial,?_⟩
 conv=>whnf
 refine⟨rfl,?_⟩
 refine vcg_ok (rd:=false) tab_ok mixed hF (fun _=>rfl) ?_
 conv=>whnf
 exact⟨_,_,_,Ends.here,.tup (by intro v hv;simp at hv;rcases hv with rfl|rfl;exact encChs_free _ _;exact .int),.tup (by intro v hv;simp at hv;rcases hv with rfl|rfl;exact encChs_fresh _;exact .int),rfl,rfl,rfl⟩
end
section
open Go.Proofs.Tryz (prog)
theorem tupCh_free (l:List Change) (k:Int):Free (.tup [encChs true l,.int .i64 k]):=.tup (by intro v hv;simp at hv;rcases hv with rfl|rfl;exact encChs_free _ _;exact .int)
theorem take_ok {own:UInt32} {pe:Peer} {pol:Policy} {m:List (Prefix × Attrs)} (hm:okM own pe pol m) (u:Upd) (hs:Small u) (hc:checkU u=0) (ha:smallA u.attrs) (hl:(takeM m u.gone u.new u.attrs).length≤64) (hn:okM own pe pol (takeM m u.gone u.new u.attrs)) :
  InC 14 [.ptr 0 0,encU false u] (cellsIn own pe pol m) (cellsIn own pe pol (takeM m u.gone u.new u.attrs)) (·=.tup [encChs true (chgs own pe pol pol m (takeM m u.gone u.new u.attrs)),.int .i64 0]):=
 CallV.ends (take_B hm u hs hc ha hl hn).callV fun v h' nx' ⟨e1,e2,e3⟩=>by
  subst e1 e2 e3
  exact⟨.tup [encChs true (chgs own pe pol pol m (takeM m u.gone u.new u.attrs)),.int .i64 0],[(0,some (.var true 99 (cellsIn own pe pol (takeM m u.gone u.new u.attrs))))],1,(Ends.all id [] (by repeat' (first|exact LHa|exact .free (tupCh_free _ _)|exact LeL.freeV (cellsIn_free own pe pol _)|exact .A|exact LeL.fr rfl|exact LHb|refine Or.inl ⟨by simp,_,rfl,?_⟩|exact Or.inr ⟨by simp,_,_,_,_,rfl⟩|refine⟨rfl,rfl,rfl,rfl,rfl,rfl,?_⟩|refine⟨?_,?_⟩)) (fun _ _ _ _ h=>h) (fun _ _=>rfl) (by omega) (by simp)),rfl,rfl,rfl⟩
theorem two_one {x y:Blk}:∀b,hget [(0,some x),(1,some y),(2,none)] b=hget [(0,some x),(1,some y)] b:=fun b=>by
 simp only[hget_cons]
 repeat' split
 all_goals first|rfl|(exfalso;omega)
attribute [local irreducible] CallV RoundV aggK VC VM CallB
theorem doClear {own:UInt32} {pe:Peer} {pol:Policy} {m:List (Prefix × Attrs)}:DoC 57 [.ptr 1 0] (some (.var true 41 [.ptr 0 0])) none (cellsIn own pe pol m) (cellsIn own pe pol []):=by
 unfold DoC
 refine callV_of (fn:=Go.Proofs.Tryz.f57) (body:=_) tab_ok mixed rfl rfl (by decide) (by simp[Go.Proofs.Tryz.f57]) ?_
 conv=>whnf
 exact⟨.tup [],[(0,some (.var true 99 (cellsIn own pe pol []))),(3,some (.var true 46 [.snil]))],4,(Ends.all id [4] (by repeat' (first|exact LHa|exact Or.inl ⟨by decide,_,rfl,id,rfl,.fr rfl,.fr rfl,.fr rfl,.fr rfl,.fr rfl,.fr rfl,.fr rfl,LeV.freezeM (by simp) rfl rfl (by simp),trivial⟩|exact .A|exact LeL.fr rfl|exact LHb|refine Or.inl ⟨by simp,_,rfl,?_⟩|exact Or.inr ⟨by simp,_,_,_,_,rfl⟩|refine⟨rfl,rfl,rfl,rfl,rfl,rfl,?_⟩|refine⟨?_,?_⟩)) (fun _ _ _ _ h=>h) (fun _ _=>rfl) (by omega) (by intro z hz;simp only[List.mem_cons,List.not_mem_nil,or_false]at hz;rcases hz with rfl<;>exact ne_none_of rfl)),rfl,rfl,rfl⟩
theorem clear_ok {own:UInt32} {pe:Peer} {pol:Policy} {m:List (Prefix × Attrs)} (hm:okM own pe pol m) (hn:okM own pe pol []) :
  InC 27 [.ptr 0 0] (cellsIn own pe pol m) (cellsIn own pe pol []) (·=.tup [encChs true (chgs own pe pol pol m []),.int .i64 0]):=by
 unfold InC
 refine callV_of (fn:=Go.Proofs.Tryz.f27) (body:=_) tab_ok mixed rfl rfl (by decide) (by simp[Go.Proofs.Tryz.f27]) ?_
 conv=>whnf
 refine callV_in (none_ok own pe pol m) rfl (cellsIn_free _ _ _ _) (cellsIn_free _ _ _ _) ⟨.ptr rfl (by omega),trivial⟩ ?_
 rintro v rfl
 refine⟨.bool,?_⟩
 show _
 conv=>whnf
 refine callV_frame (nx:=2) (n0:=2) id ((callB_more (h:=[(0,some (.var true 99 (cellsIn own pe pol m))),(1,some (.var true 41 [.ptr 0 0]))]) (by decide) two_one (changed_B hm hn doClear)).callV) (by repeat' (first|exact True.intro|exact LeL.freeV (cellsIn_free own pe pol m)|exact .fnL trivial ⟨.ptr rfl (by omega),trivial⟩|exact .A|exact LeL.fr rfl|refine⟨?_,?_⟩)) (LeH.of (by repeat' (first|exact LHa|exact LeL.freeV (cellsIn_free own pe pol m)|exact .fnL trivial ⟨.ptr rfl (by omega),trivial⟩|exact .A|exact LeL.fr rfl|exact LHb|refine Or.inl ⟨by simp,_,rfl,?_⟩|exact Or.inr ⟨by simp,_,_,_,_,rfl⟩|refine⟨rfl,rfl,rfl,rfl,rfl,rfl,?_⟩|refine⟨?_,?_⟩)) (show ∀b∈([0,1]:List Nat),∀b'∈([0,1]:List Nat),id b=id b'→b=b' by decide) (fun _ h=>by omega) (by omega) (by simp)) (fun b hb=>by match b,hb with|0,_=>exact ne_none_of rfl|1,_=>exact ne_none_of rfl) (by decide) ?_
 rintro v h' nx' ⟨rfl,rfl,rfl⟩ _
 refine⟨encChs true (chgs own pe pol pol m []),[(0,some (.var true 99 (cellsIn own pe pol [])))],.free (encChs_free _ _),(by repeat' (first|exact True.intro|exact Or.inr ⟨by decide,rfl⟩|exact Or.inl ⟨0,rfl,by omega,_,rfl,.var (cellsIn_free own pe pol [])⟩|refine⟨?_,?_⟩)),?_⟩
 conv=>whnf
 exact⟨.tup [encChs true (chgs own pe pol pol m []),.int .i64 0],[(0,some (.var true 99 (cellsIn own pe pol [])))],1,(Ends.all id [] (by repeat' (first|exact LHa|exact LeL.freeV (cellsIn_free own pe pol [])|exact .free (tupCh_free _ _)|exact .A|exact LeL.fr rfl|exact LHb|refine Or.inl ⟨by simp,_,rfl,?_⟩|exact Or.inr ⟨by simp,_,_,_,_,rfl⟩|refine⟨rfl,rfl,rfl,rfl,rfl,rfl,?_⟩|refine⟨?_,?_⟩)) (fun _ _ _ _ h=>h) (fun _ _=>rfl) (by omega) (by simp)),rfl,rfl,rfl⟩
end
section
open Go.Proofs.Tryz (prog)
attribute [local irreducible] CallV RoundV aggK
def eqE (a b:List (Prefix × Attrs)):Bool:=decide (a.length=b.length)&& a.all fun e=>decide (getE b e.1=some e.2)
theorem perm_sub {α:Type} [DecidableEq α]:∀{a b:List α},a.Nodup→a ⊆ b→b.length≤a.length→a.Perm b
 | [],b,_,_,hl=>by
  obtain rfl:b=[]:=List.eq_nil_of_length_eq_zero (by simpa using hl)
  exact .refl _
 | x :: a,b,hn,hs,hl=>by
  have hx:x∈b:=hs (by simp)
  obtain⟨h1,h2⟩:=List.nodup_cons.1 hn
  have hp:=List.perm_cons_erase hx
  refine((perm_sub h2 (fun y hy=>?_) ?_).cons x).trans hp.symm
  ·exact(List.mem_erase_of_ne (fun e=>by subst e;exact h1 hy)).2 (hs (by simp[hy]))
  ·have:=hp.length_eq
   simp at this hl
   omega
theorem eqE_perm {a b:List (Prefix × Attrs)} (ha:NodE a) (hb:NodE b):eqE a b=true↔a.Perm b:=by
 unfold eqE
 rw[Bool.and_eq_true,decide_eq_true_eq,List.all_eq_true]
 simp only[decide_eq_true_eq]
 constructor
 ·rintro ⟨hl,h⟩
  have hsub:a ⊆ b:=fun e he=>getE_mem (h e he)
  exact perm_sub ha.nodup hsub (Nat.le_of_eq hl.symm)
 ·intro hp
  exact⟨hp.length_eq,fun e he=>mem_getE hb (hp.mem_iff.1 he)⟩
theorem eqE_false {a b:List (Prefix × Attrs)} {p:Prefix} {x:Attrs} (h:(p,x)∈a) (hn:getE b p ≠ some x):eqE a b=false:=by
 unfold eqE
 rw[Bool.and_eq_false_iff]
 right
 cases hh:a.all fun e=>decide (getE b e.1=some e.2)with
 | false=>rfl
 | true=>exact absurd (of_decide_eq_true (List.all_eq_true.1 hh _ h)) hn
theorem equalA_ok (a b:List (Prefix × Attrs)):PCon prog 54 [.imap false (esA a),.imap false (esA b),.fn (.func 31) [] []] (.bool (eqE a b)):=by
 have el:(((esA a).length:Int) != ((esA b).length:Int))=!decide (a.length=b.length):=by
  simp only[esA,List.length_map]
  cases h:decide (a.length=b.length)with
  | true=>simp[of_decide_eq_true h]
  | false=>have:=of_decide_eq_false h;simp[bne];omega
 refine callV_of (fn:=Go.Proofs.Tryz.f54) (body:=_) tab_ok mixed rfl rfl (by decide) (by simp[Go.Proofs.Tryz.f54]) ?_
 conv=>whnf
 rw[el]
 cases hd:decide (a.length=b.length)with
 | false=>
  conv=>whnf
  exact(Ends.pure [] (by repeat' (first|exact True.intro|exact .bool_of (by simp[eqE,hd])|exact .A|exact LeL.fr rfl|refine .tupL ?_|refine .aggL ?_|refine⟨?_,?_⟩)) (by simp))
 | true=>
 conv=>whnf
 refine vcg_loop tab_ok mixed (fun q:{q:List (Prefix × Attrs) × List (Prefix × Attrs) // (q.1 ++ q.2).Perm a∧∀e∈q.1,getE b e.1=some e.2}=>⟨[(1,.imap false (esA b)),(2,.fn (.func 31) [] []),(17,.ptr 0 0)],[(0,some (.iter none (esA q.1.2)))],1⟩) (fun q=>q.1.2.length) ⟨([],a),by simp,by simp⟩ (Wk.i (by repeat' (first|exact LHa|exact .free (imapA_free _)|exact LeB.iter rfl (esA_free _)|exact .free (.fn (by simp) (by simp))|exact .A|exact LeL.fr rfl|exact LHb|refine Or.inl ⟨by simp,_,rfl,?_⟩|exact Or.inr ⟨by simp,_,_,_,_,rfl⟩|refine⟨rfl,rfl,rfl,rfl,rfl,rfl,?_⟩|refine⟨?_,?_⟩)) (by omega)) (fun q=>?_)
 obtain⟨⟨xs,rest⟩,hq,hx⟩:=q
 conv=>whnf
 refine⟨fun h0=>?_,fun k kv hk=>?_⟩
 ·have h0:rest=[]:=by simpa[esA]using h0
  subst h0
  rw[List.append_nil]at hq
  conv=>whnf
  exact(Ends.pure [] (by repeat' (first|exact True.intro|exact .bool_of (by rw[eqE,hd,Bool.true_and];exact(List.all_eq_true.2 fun e he=>decide_eq_true (hx e (hq.mem_iff.2 he))).symm)|exact .A|exact LeL.fr rfl|refine .tupL ?_|refine .aggL ?_|refine⟨?_,?_⟩)) (by simp))
 ·obtain⟨⟨p,x⟩,hpk,rfl⟩:∃p,rest[k]? = some p∧kv=(encP p.1,encA false p.2):=by
   simp only[esA,List.getElem?_map,Option.map_eq_some_iff]at hk
   obtain⟨p,h1,h2⟩:=hk
   exact⟨p,h1,h2.symm⟩
  have hin:(p,x)∈a:=hq.mem_iff.1 (List.mem_append_right _ (List.mem_of_getElem? hpk))
  have hlt:(rest.eraseIdx k).length < rest.length:=by
   have:=(List.getElem?_eq_some_iff.1 hpk).1
   rw[List.length_eraseIdx]
   split<;>omega
  conv=>whnf
  cases hg:getE b p with
  | none=>
   refine⟨esA_keys _,keyP _,none,look_none hg,?_⟩
   conv=>whnf
   exact(Ends.pure [] (by repeat' (first|exact True.intro|exact .bool_of (eqE_false hin (by rw[hg];simp)).symm|exact .A|exact LeL.fr rfl|refine .tupL ?_|refine .aggL ?_|refine⟨?_,?_⟩)) (by simp))
  | some y=>
   refine⟨esA_keys _,keyP _,some (encA false y),look_some hg,?_⟩
   conv=>whnf
   refine callV_pure (same_ok false false x y) ⟨.fr rfl,.fr rfl,trivial⟩ ?_
   cases hs:sameA x y with
   | false=>
    conv=>whnf
    exact(Ends.pure [] (by repeat' (first|exact True.intro|exact .bool_of (eqE_false hin (by rw[hg];intro e;exact of_decide_eq_false hs (Option.some.inj e).symm)).symm|exact .A|exact LeL.fr rfl|refine .tupL ?_|refine .aggL ?_|refine⟨?_,?_⟩)) (by simp))
   | true=>
    conv=>whnf
    exact⟨⟨(xs ++ [(p,x)],rest.eraseIdx k),(perm_stepA hpk).trans hq,fun e he=>by
     rcases List.mem_append.1 he with he|he
     ·exact hx e he
     ·obtain rfl:=List.mem_singleton.1 he
      rw[hg,of_decide_eq_true hs]⟩,(Wk.i (by repeat' (first|exact LHa|exact .free (imapA_free _)|exact LeB.iter (esA_erase rest k) (fun kv h=>esA_free _ kv (List.mem_of_mem_eraseIdx h))|exact .free (.fn (by simp) (by simp))|exact .A|exact LeL.fr rfl|exact LHb|refine Or.inl ⟨by simp,_,rfl,?_⟩|exact Or.inr ⟨by simp,_,_,_,_,rfl⟩|refine⟨rfl,rfl,rfl,rfl,rfl,rfl,?_⟩|refine⟨?_,?_⟩)) (by omega)),hlt⟩
def litsPe (p:Peer):List Lit:=[litW p.sys,litW p.id,litW p.addr,.bool p.inner]
theorem litsPe_inj {p q:Peer}:litsPe p=litsPe q↔p=q:=by
 constructor
 ·intro h
  obtain⟨a,b,c,d⟩:=p
  obtain⟨a',b',c',d'⟩:=q
  simp only[litsPe,List.cons.injEq,Lit.bool.injEq,and_true]at h
  obtain⟨h1,h2,h3,h4⟩:=h
  rw[litW_inj h1,litW_inj h2,litW_inj h3,h4]
 ·exact fun h=>by rw[h]
theorem litPe (p:Peer) {K:List Lit→Prop} (h:K (litsPe p)):litK tab 60 45 (cellsPe p) K:=And.intro (wfW _) (And.intro (wfW _) (And.intro (wfW _) h))
theorem eqlPe (r s:Peer) {K:V→Prop} (h:K (.bool (decide (r=s)))):aggK tab .eql 45 (cellsPe r) (cellsPe s) K:=by
 refine aggK_eql rfl rfl ?_
 refine litPe r ?_
 refine litPe s ?_
 exact⟨decide (r=s),by rw[litsPe_inj];simp,h⟩
theorem same24_ok (own own':UInt32) (pe pe':Peer) (pol pol':Policy) (m m':List (Prefix × Attrs)):CallV prog 24 [.ptr 0 0,.ptr 1 0] [(0,some (.var true 99 (cellsIn own pe pol m))),(1,some (.var true 99 (cellsIn own' pe' pol' m')))] 2
  (fun v h nx=>v=.bool (decide (pe=pe')&& decide (own=own')&& sameP pol pol' && eqE m m')∧h=[(0,some (.var true 99 (cellsIn own pe pol m))),(1,some (.var true 99 (cellsIn own' pe' pol' m')))]∧nx=2):=by
 refine callV_of (fn:=Go.Proofs.Tryz.f24) (body:=_) tab_ok mixed rfl rfl (by decide) (by simp[Go.Proofs.Tryz.f24]) ?_
 conv=>whnf
 refine callV_in (none_ok own pe pol m) rfl (cellsIn_free _ _ _ _) (cellsIn_free _ _ _ _) ⟨.ptr rfl (by omega),trivial⟩ ?_
 rintro v rfl
 refine⟨.bool,?_⟩
 show _
 conv=>whnf
 refine callV_in (none_ok own' pe' pol' m') rfl (cellsIn_free _ _ _ _) (cellsIn_free _ _ _ _) ⟨.ptr rfl (by omega),trivial⟩ ?_
 rintro v rfl
 refine⟨.bool,?_⟩
 show _
 conv=>whnf
 refine eqlPe pe pe' ?_
 cases h1:decide (pe=pe')with
 | false=>
  conv=>whnf
  refine⟨drawOk_fast (by kernel_rfl),?_⟩
  conv=>whnf
  exact⟨.bool false,[(0,some (.var true 99 (cellsIn own pe pol m))),(1,some (.var true 99 (cellsIn own' pe' pol' m')))],2,(Ends.all id [] (by repeat' (first|exact LHa|exact LeL.freeV (cellsIn_free own pe pol m)|exact LeL.freeV (cellsIn_free own' pe' pol' m')|exact .A|exact LeL.fr rfl|exact LHb|refine Or.inl ⟨by simp,_,rfl,?_⟩|exact Or.inr ⟨by simp,_,_,_,_,rfl⟩|refine⟨rfl,rfl,rfl,rfl,rfl,rfl,?_⟩|refine⟨?_,?_⟩)) (fun _ _ _ _ h=>h) (fun _ _=>rfl) (by omega) (by simp)),by simp,rfl,rfl⟩
 | true=>
 conv=>whnf
 rw[beqW]
 cases h2:decide (own=own')with
 | false=>
  conv=>whnf
  refine⟨drawOk_fast (by kernel_rfl),?_⟩
  conv=>whnf
  exact⟨.bool false,[(0,some (.var true 99 (cellsIn own pe pol m))),(1,some (.var true 99 (cellsIn own' pe' pol' m')))],2,(Ends.all id [] (by repeat' (first|exact LHa|exact LeL.freeV (cellsIn_free own pe pol m)|exact LeL.freeV (cellsIn_free own' pe' pol' m')|exact .A|exact LeL.fr rfl|exact LHb|refine Or.inl ⟨by simp,_,rfl,?_⟩|exact Or.inr ⟨by simp,_,_,_,_,rfl⟩|refine⟨rfl,rfl,rfl,rfl,rfl,rfl,?_⟩|refine⟨?_,?_⟩)) (fun _ _ _ _ h=>h) (fun _ _=>rfl) (by omega) (by simp)),by simp,rfl,rfl⟩
 | true=>
 conv=>whnf
 refine⟨_,[],fun h nx _=>pureV_pure (psame_ok false false pol pol') ⟨.fr rfl,.fr rfl,trivial⟩,by simp,?_⟩
 cases h3:sameP pol pol' with
 | false=>
  conv=>whnf
  refine⟨drawOk_fast (by kernel_rfl),?_⟩
  conv=>whnf
  exact⟨.bool false,[(0,some (.var true 99 (cellsIn own pe pol m))),(1,some (.var true 99 (cellsIn own' pe' pol' m')))],2,(Ends.all id [] (by repeat' (first|exact LHa|exact LeL.freeV (cellsIn_free own pe pol m)|exact LeL.freeV (cellsIn_free own' pe' pol' m')|exact .A|exact LeL.fr rfl|exact LHb|refine Or.inl ⟨by simp,_,rfl,?_⟩|exact Or.inr ⟨by simp,_,_,_,_,rfl⟩|refine⟨rfl,rfl,rfl,rfl,rfl,rfl,?_⟩|refine⟨?_,?_⟩)) (fun _ _ _ _ h=>h) (fun _ _=>rfl) (by omega) (by simp)),by simp,rfl,rfl⟩
 | true=>
 conv=>whnf
 refine⟨_,[],fun h nx _=>pureV_pure (equalA_ok m m') ⟨.fr rfl,.fr rfl,.fr rfl,trivial⟩,by simp,?_⟩
 conv=>whnf
 refine⟨drawOk_fast (by kernel_rfl),?_⟩
 conv=>whnf
 exact⟨.bool (eqE m m'),[(0,some (.var true 99 (cellsIn own pe pol m))),(1,some (.var true 99 (cellsIn own' pe' pol' m')))],2,(Ends.all id [] (by repeat' (first|exact LHa|exact LeL.freeV (cellsIn_free own pe pol m)|exact LeL.freeV (cellsIn_free own' pe' pol' m')|exact .A|exact LeL.fr rfl|exact LHb|refine Or.inl ⟨by simp,_,rfl,?_⟩|exact Or.inr ⟨by simp,_,_,_,_,rfl⟩|refine⟨rfl,rfl,rfl,rfl,rfl,rfl,?_⟩|refine⟨?_,?_⟩)) (fun _ _ _ _ h=>h) (fun _ _=>rfl) (by omega) (by simp)),by simp,rfl,rfl⟩
end
section
open Go.Proofs.Tryz (prog)
attribute [local irreducible] CallV RoundV aggK
def ctR (own:UInt32) (pe:Peer) (pol:Policy) (p:Prefix) (a:Attrs):Attrs × Bool:=
 if hasA a.path own then(noA,false)else if !pe.inner && !decide (firstOf a=pe.sys)then(noA,false)else byR pol own p (outA pe a)
theorem ctR_cnt (own:UInt32) (pe:Peer) (pol:Policy) (p:Prefix) (a:Attrs):cnt own pe pol p a=if(ctR own pe pol p a).2 then some (ctR own pe pol p a).1 else none:=by
 unfold cnt ctR isC
 cases hasA a.path own<;>cases pe.inner<;>cases decide (firstOf a=pe.sys)<;>simp
def countR (r:RibS) (p:Prefix):Option Attrs:=(getE r.said p).bind (cnt r.own r.peer r.pol p)
def smallS (r:RibS):Prop:=r.said.length≤1000∧∀e∈r.said,smallA e.2
end
section
open Go.Proofs.Tryz (prog)
attribute [local irreducible] CallV RoundV aggK
theorem rows_app {α:Type} {f:α→List V} {o o' x:List α} {n:Nat} {r:List (List V)} (h:o'=o ++ x) (hn:n=o.length) (hr:r=x.map f):List.take n (o.map f)++ r=o'.map f:=by
 subst h;subst hn;subst hr
 rw[List.take_of_length_le (by simp)]
 simp
end
section
open Go.Proofs.Tryz (prog)
attribute [local irreducible] CallV RoundV aggK
theorem keysE_len (l:List (Prefix × Attrs)):(keysE l).length=l.length:=List.length_map _
end
section
open Go.Proofs.Tryz (prog)
attribute [local irreducible] CallV RoundV aggK
def newR (r:RibS) (u:Upd):RibS:={ r with said:=takeS r.said u.gone u.new u.attrs }
end
section
open Go.Proofs.Tryz (prog)
attribute [local irreducible] CallV RoundV aggK
theorem all24_ok (own:UInt32) (pe:Peer) (pol:Policy) (m:List (Prefix × Attrs)):InC 15 [.ptr 0 0] (cellsIn own pe pol m) (cellsIn own pe pol m) (·=.fn (.func 43) [] [.iptr true [.imap false (esA m)]]):=by
 unfold InC
 refine callV_of (fn:=Go.Proofs.Tryz.f15) (body:=_) tab_ok mixed rfl rfl (by decide) (by simp[Go.Proofs.Tryz.f15]) ?_
 conv=>whnf
 refine callV_in (none_ok own pe pol m) rfl (cellsIn_free _ _ _ _) (cellsIn_free _ _ _ _) ⟨.ptr rfl (by omega),trivial⟩ ?_
 rintro v rfl
 refine⟨.bool,?_⟩
 show _
 conv=>whnf
 refine callV_pure (cloneA_pure false false (esA m)) ⟨.fr rfl,trivial⟩ ?_
 conv=>whnf
 exact⟨.fn (.func 43) [] [.iptr true [.imap false (esA m)]],[(0,some (.var true 99 (cellsIn own pe pol m)))],1,(Ends.all id [1] (by repeat' (first|exact LHa|exact LeL.freeV (cellsIn_free own pe pol m)|exact .fnL trivial ⟨LeV.freezeP (by simp) rfl (by intro v hv;simp at hv;subst hv;exact imapA_free m),trivial⟩|exact .A|exact LeL.fr rfl|exact LHb|refine Or.inl ⟨by simp,_,rfl,?_⟩|exact Or.inr ⟨by simp,_,_,_,_,rfl⟩|refine⟨rfl,rfl,rfl,rfl,rfl,rfl,?_⟩|refine⟨?_,?_⟩)) (fun _ _ _ _ h=>h) (fun _ _=>rfl) (by omega) (by intro z hz;simp only[List.mem_cons,List.not_mem_nil,or_false]at hz;rcases hz with rfl<;>exact ne_none_of rfl)),rfl,rfl,rfl⟩
end
section
open Go.Proofs.Tryz (prog)
attribute [local irreducible] CallV RoundV aggK
structure RelR (own:UInt32) (pe:Peer) (pol:Policy) (m:List (Prefix × Attrs)) (r:RibS):Prop where
 eown:r.own=own
 epeer:r.peer=pe
 epol:r.pol=pol
 perm:r.said.Perm m
 ris:RisE r.said
 ok:okM own pe pol m
theorem RelR.get {own:UInt32} {pe:Peer} {pol:Policy} {m:List (Prefix × Attrs)} {r:RibS} (h:RelR own pe pol m r) {i:Nat} (hi:i < r.said.length):getE m r.said[i].1=some r.said[i].2:=by
 have hn:NodE m:=h.ok.1
 exact mem_getE hn (h.perm.mem_iff.1 (List.getElem_mem hi))
theorem RelR.len {own:UInt32} {pe:Peer} {pol:Policy} {m:List (Prefix × Attrs)} {r:RibS} (h:RelR own pe pol m r):r.said.length=m.length:=h.perm.length_eq
theorem RelR.count {own:UInt32} {pe:Peer} {pol:Policy} {m:List (Prefix × Attrs)} {r:RibS} (h:RelR own pe pol m r) (p:Prefix):countR r p=(getE m p).bind (cnt own pe pol p):=by
 rw[countR,h.eown,h.epeer,h.epol,getE_perm h.ris.nod h.perm]
theorem RelR.small {own:UInt32} {pe:Peer} {pol:Policy} {m:List (Prefix × Attrs)} {r:RibS} (h:RelR own pe pol m r):smallS r:=⟨by rw[h.len];have:=h.ok.2.1;omega,fun e he=>(h.ok.2.2 e (h.perm.mem_iff.1 he)).1⟩
theorem rtV_free (fr:Bool) (p:Prefix) (pe:Peer) (o:Option Attrs):Free (rtV fr p pe o):=by
 cases o<;>exact .tup (by simp;exact⟨encRt_free _ _,.bool⟩)
end
section
open Go.Proofs.Tryz (prog)
theorem right_small {a:Attrs} (h:rightA a=true):smallA a:=by
 simp only[rightA,Bool.and_eq_true,decide_eq_true_eq]at h
 obtain⟨⟨⟨⟨⟨⟨_,h1⟩,_⟩,_⟩,_⟩,h2⟩,_⟩:=h
 simp only[pathOk,Bool.and_eq_true,decide_eq_true_eq,List.all_eq_true]at h1
 refine⟨by omega,fun p hp=>?_,by omega⟩
 have:=h1.2 p hp
 simp only[legOk,Bool.and_eq_true,decide_eq_true_eq]at this
 have:=this.1.1.2
 omega
theorem noA_small:smallA noA:=⟨by simp[noA],by simp[noA],by simp[noA]⟩
theorem byE_zero24 {p:Policy} {own:UInt32} {to:Prefix} {a:Attrs} (h:byE p own to a=0):rightA a=true:=by
 unfold byE at h
 split at h
 ·cases h
 ·rename_i hh
  simp only[not_or]at hh
  simpa using hh.2.2.1
theorem by_right24 {p:Policy} {own:UInt32} {to:Prefix} {a:Attrs} (h:byE p own to a=0) (hok:byOk p own to a=true):rightA (byA p own to a)=true:=by
 have h3:=byE_zero24 h
 unfold byA
 unfold byOk at hok
 cases hf:p.rules.find? (fun r=>fits r to a)with
 | none=>
  rw[hf]at hok
  simp only at hok ⊢
  rw[if_pos hok]
  exact h3
 | some r=>
  rw[hf]at hok
  simp only at hok ⊢
  rw[if_pos hok]
  simp only[passR,Bool.and_eq_true,decide_eq_true_eq]at hok
  have hd:=hok.2
  unfold doneE at hd
  exact(prep_fine hd).2.2.2.1
theorem cnt_small {own:UInt32} {pe:Peer} {pol:Policy} {p:Prefix} {a b:Attrs} (h:cnt own pe pol p a=some b):smallA b:=by
 rw[ctR_cnt]at h
 split at h
 ·rename_i hc
  cases h
  unfold ctR at hc ⊢
  split at hc
  ·cases hc
  ·split at hc
   ·cases hc
   ·rename_i h1 h2
    rw[if_neg h1,if_neg h2]
    unfold byR at hc ⊢
    split at hc
    ·cases hc
    ·rename_i h3
     rw[if_neg h3]
     exact right_small (by_right24 (by simpa using h3) hc)
 ·cases h
theorem okM_of {own:UInt32} {pe:Peer} {pol:Policy} {m:List (Prefix × Attrs)} (hn:NodE m) (hl:m.length≤400) (hs:∀e∈m,smallA e.2):okM own pe pol m:=⟨hn,hl,fun e he=>⟨hs e he,fun b hb=>cnt_small hb⟩⟩
theorem okM_nil (own:UInt32) (pe:Peer) (pol:Policy):okM own pe pol []:=okM_of (by simp[NodE,keysE]) (by simp) (by simp)
theorem take_small {P:Attrs→Prop} {l:List (Prefix × Attrs)} {g new:List Prefix} {a:Attrs} (h:∀e∈l,P e.2) (ha:P a):∀e∈takeM l g new a,P e.2:=by
 have hd:∀(g:List Prefix) (l:List (Prefix × Attrs)),(∀e∈l,P e.2)→∀e∈delsM l g,P e.2:=by
  intro g
  induction g with
  | nil=>intro l h;exact h
  | cons x g ih=>intro l h;exact ih _ fun e he=>h e (List.mem_filter.1 he).1
 have hp:∀(g:List Prefix) (l:List (Prefix × Attrs)),(∀e∈l,P e.2)→∀e∈putsM l g a,P e.2:=by
  intro g
  induction g with
  | nil=>intro l h;exact h
  | cons x g ih=>
   intro l h
   refine ih _ fun e he=>?_
   have he:e∈putE l x a:=he
   by_cases hk:x∈keysE l
   ·rw[putE,if_pos hk]at he
    obtain⟨e',he',rfl⟩:=List.mem_map.1 he
    show P (if e'.1=x then(x,a)else e').2
    by_cases hx:e'.1=x
    ·rw[if_pos hx];exact ha
    ·rw[if_neg hx];exact h e' he'
   ·rw[putE,if_neg hk]at he
    rcases List.mem_append.1 he with he|he
    ·exact h e he
    ·obtain rfl:=List.mem_singleton.1 he
     exact ha
 exact hp new _ (hd g l h)
theorem RelR.take {own:UInt32} {pe:Peer} {pol:Policy} {m:List (Prefix × Attrs)} {r:RibS} (h:RelR own pe pol m r) {u:Upd} (hu:checkU u=0) (ha:smallA u.attrs) (hl:¬ 64 < (newR r u).said.length):RelR own pe pol (takeM m u.gone u.new u.attrs) (newR r u):=by
 have hm:mayU u=true:=by
  unfold checkU at hu
  split at hu
  ·assumption
  ·cases hu
 obtain⟨_,h2,_,_⟩:=mayU_out hm
 have hnd:u.new.Nodup:=nodup_of_strict (strict_of_rise (riseP_iff.1 h2))
 have hp:(takeM m u.gone u.new u.attrs).Perm (newR r u).said:=take_perm h.ris h.perm.symm hnd
 obtain⟨hris,_⟩:=takeS_ok (gone:=u.gone) (a:=u.attrs) h.ris hnd
 exact⟨h.eown,h.epeer,h.epol,hp.symm,hris,okM_of (nod_take h.ok.1) (by rw[hp.length_eq];omega) (take_small (fun e he=>(h.ok.2.2 e he).1) ha)⟩
theorem RelR.clear {own:UInt32} {pe:Peer} {pol:Policy} {m:List (Prefix × Attrs)} {r:RibS} (h:RelR own pe pol m r):RelR own pe pol [] { r with said:=[] }:=
 ⟨h.eown,h.epeer,h.epol,.refl _,by simp[RisE,keysE],okM_nil _ _ _⟩
theorem RelR.new {own:UInt32} {pe:Peer} {pol:Policy} (h:newOk own pe pol=true):RelR own pe pol [] (newS own pe pol):=by
 rw[newS,if_pos h]
 exact⟨rfl,rfl,rfl,.refl _,by simp[RisE,keysE],okM_nil _ _ _⟩
end
section
open Go.Proofs.Tryz (prog)
attribute [local irreducible] CallV RoundV aggK
theorem idxCh {fr:Bool} {l:List Change} {i:Nat} (h:i < l.length):(rowsCh fr l)[(i:Int).toNat]? = some (cellsCh fr l[i]):=by simp[rowsCh,h]
end
section
def Kin (u0 u1:Value):Prop:=(∃x y:UInt32,u0=.int .u32 x.toNat∧u1=.int .u32 y.toNat)∨∃b c,u0=.bool b∧u1=.bool c
theorem Kin.one {u0 u1:Value} (h:Kin u0 u1):u1.oneCell'=true:=by
 rcases h with⟨x,y,_,rfl⟩|⟨b,c,_,rfl⟩<;>rfl
section
variable {G : Gh} {w w' : World} {ad : Addr} {u0 u1 : Value}
def Alike (p q:List Leg):Prop:=p.map (·.ns.length)=q.map (·.ns.length)
theorem Alike.length {p q:List Leg} (h:Alike p q):p.length=q.length:=by simpa[Alike]using congrArg List.length h
theorem Alike.at {p q:List Leg} (h:Alike p q) {i:Nat} (h1:i < p.length) (h2:i < q.length):p[i].ns.length=q[i].ns.length:=by
 have:(p.map (·.ns.length))[i]? = (q.map (·.ns.length))[i]?:=by rw[h]
 simpa[h1,h2]using this
end
end
section
open Go.Proofs.Tryz (prog)
attribute [local irreducible] CallV RoundV VC VH
structure Shp (a x:Attrs):Prop where
 legs:Alike x.path a.path
 tags:x.tags.length=a.tags.length
theorem Shp.refl (a:Attrs):Shp a a:=⟨rfl,rfl⟩
def Bare (s:St):List (Nat × V)→Prop
 | []=>True
 | (i,v) :: r=>(Scalar v∧s.get i=v)∧Bare s r
theorem Bare.out {s:St}:∀{t:List (Nat × V)},Bare s t→∀i,look t i=.any∨(Scalar (look t i)∧s.get i=look t i)
 | [],_,i=>.inl rfl
 | (j,v) :: r,h,i=>by
  have e:look ((j,v) :: r) i=if j=i then v else look r i:=by
   have:=get_put r [] [] 0 0 j v i
   simpa[St.get]using this
  rw[e]
  by_cases hij:j=i
  ·subst hij;rw[if_pos rfl];exact .inr h.1
  ·rw[if_neg hij];exact Bare.out h.2 i
theorem Kin.u32 {G:Gh} {w:World} {n:Nat} {m:Int} {u0 u1:Value} (hn:n < 2 ^ 32) (hm:0≤m∧m < 2 ^ 32) (h0:vr G w (.int .u32 n) u0) (h1:vr G w (.int .u32 m) u1):Kin u0 u1:=by
 left
 refine⟨UInt32.ofNat n,UInt32.ofNat m.toNat,?_,?_⟩
 ·rw[VR.int_iff.1 h0,UInt32.toNat_ofNat_of_lt' (by simpa[UInt32.size]using hn)]
 ·rw[VR.int_iff.1 h1,UInt32.toNat_ofNat_of_lt' (by simp[UInt32.size];omega)]
  congr 1;omega
theorem Kin.bool {G:Gh} {w:World} {b c:Bool} {u0 u1:Value} (h0:vr G w (.bool b) u0) (h1:vr G w (.bool c) u1):Kin u0 u1:=.inr ⟨b,c,VR.bool_iff.1 h0,VR.bool_iff.1 h1⟩
theorem Shp.trans {a b c:Attrs} (h:Shp a b) (k:Shp b c):Shp a c:=⟨k.legs.trans h.legs,k.tags.trans h.tags⟩
end
section
section
variable {G : Gh} {w w' : World} {ad : Addr} {u0 u1 : Value}
structure ShC (y x:Change):Prop where
 legs:Alike y.attrs.path x.attrs.path
 tags:y.attrs.tags.length=x.attrs.tags.length
end
end
section
open Go.Proofs.Tryz (prog)
attribute [local irreducible] CallV RoundV VC VH
def ShL (l x:List Change):Prop:=x.length=l.length∧∀i (h1:i < x.length) (h2:i < l.length),ShC x[i] l[i]
theorem ShL.refl (l:List Change):ShL l l:=⟨rfl,fun i h1 h2=>⟨rfl,rfl⟩⟩
theorem ShL.trans {a b c:List Change} (h:ShL a b) (k:ShL b c):ShL a c:=⟨k.1.trans h.1,fun i h1 h2=>by
 have h3:i < b.length:=by rw[h.1];exact h2
 exact⟨(k.2 i h1 h3).legs.trans (h.2 i h3 h2).legs,(k.2 i h1 h3).tags.trans (h.2 i h3 h2).tags⟩⟩
end
section
open Go.Proofs.Tryz (prog)
attribute [local irreducible] CallV RoundV aggK
theorem num24_ok (n:Int):PCon prog 10 [.int .i64 n] (.int .i64 n):=by
 refine callV_of (fn:=Go.Proofs.Tryz.f10) (body:=_) tab_ok mixed rfl rfl (by decide) (by simp[Go.Proofs.Tryz.f10]) ?_
 conv=>whnf
 exact(Ends.pure [] (by repeat' (first|exact True.intro|exact .fr rfl|exact .A|exact LeL.fr rfl|refine .tupL ?_|refine .aggL ?_|refine⟨?_,?_⟩)) (by simp))
def saidA (l:List UInt32):Attrs:={ noA with path:=[⟨false,l⟩],next:=9 }
theorem lsaid_ok (fr:Bool) (l:List UInt32) (hl:l.length≤100):PCon prog 21 [encW fr l] (encA true (saidA l)):=by
 refine callV_of (fn:=Go.Proofs.Tryz.f21) (body:=_) tab_ok mixed rfl rfl (by decide) (by simp[Go.Proofs.Tryz.f21]) ?_
 conv=>whnf
 refine⟨⟨rfl,rfl,rfl,rfl,by decide⟩,by simp,⟨by simp[tab,tabOf,nth];omega,by simp;omega⟩,?_⟩
 conv=>whnf
 refine Ends.pure [2,3] (.aggL ⟨.fr rfl,LeV.freezeR (ys:=[encLeg true ⟨false,l⟩]) (by simp) rfl (by simp) ⟨⟨.fr rfl,LeV.freezeE (by simp) rfl (by simp) (by simp;exact List.take_of_length_le (by simp)) (rowsW_free l),trivial⟩,trivial⟩,.fr rfl,.fr rfl,.fr rfl,.fr rfl,.fr rfl,.snil_sl,trivial⟩) (by intro z hz;simp only[List.mem_cons,List.not_mem_nil,or_false]at hz;rcases hz with rfl|rfl<;>exact ne_none_of rfl)
structure ActL where
 what:Int
 upd:Upd
 pol:Policy
def cellsAct (fr:Bool) (x:ActL):List V:=.int .i64 x.what :: (cellsU fr x.upd ++ cellsPo fr x.pol)
def encActs (fr:Bool) (l:List ActL):V:=.sl fr 13 (l.map (cellsAct fr))
theorem cellsAct_free (fr:Bool) (x:ActL):∀v∈cellsAct fr x,Free v:=by
 intro v hv
 simp only[cellsAct,List.mem_cons,List.mem_append]at hv
 rcases hv with rfl|hv|hv
 ·exact .int
 ·exact cellsU_free fr _ v hv
 ·exact cellsPo_free fr _ v hv
theorem encActs_free (fr:Bool) (l:List ActL):Free (encActs fr l):=.sl (by
 intro x hx v hv
 obtain⟨c,_,rfl⟩:=List.mem_map.1 hx
 exact cellsAct_free fr c v hv)
instance {fr l}:FreeI (encActs fr l):=⟨⟨encActs_free fr l⟩⟩
theorem idxAct {fr:Bool} {l:List ActL} {i:Nat} (h:i < l.length):(l.map (cellsAct fr))[(i:Int).toNat]? = some (cellsAct fr l[i]):=by simp[h]
def few24U (u:Upd):Bool:=decide (u.gone.length≤40)&& decide (u.new.length≤40)&& decide (u.attrs.path.length≤20)&& decide (u.attrs.tags.length≤40)
def few24P (u:Upd):Bool:=u.attrs.path.all fun p=>decide (p.ns.length≤40)
def few24X (x:ActL):Bool:=few24U x.upd && decide (x.pol.rules.length≤30)&& few24P x.upd
def few24S (l:List ActL) (most:Int):Bool:=l.all few24X && decide ((l.length:Int)≤most)
theorem few24S_false {l:List ActL} {most:Int} {i:Nat} (h:i < l.length) (hx:few24X l[i]=false):few24S l most=false:=by
 rw[few24S,Bool.and_eq_false_iff]
 left
 cases hh:l.all few24X with
 | false=>rfl
 | true=>rw[List.all_eq_true.1 hh _ (List.getElem_mem h)]at hx;cases hx
theorem few24X_1 {x:ActL} (h:few24U x.upd=false):few24X x=false:=by simp[few24X,h]
theorem few24X_2 {x:ActL} (h:¬ x.pol.rules.length≤30):few24X x=false:=by simp[few24X,h]
theorem few24X_3 {x:ActL} {k:Nat} (hk:k < x.upd.attrs.path.length) (h:¬ x.upd.attrs.path[k].ns.length≤40):few24X x=false:=by
 have:few24P x.upd=false:=by
  cases hh:few24P x.upd with
  | false=>rfl
  | true=>exact absurd (of_decide_eq_true (List.all_eq_true.1 hh _ (List.getElem_mem hk))) h
 simp[few24X,this]
theorem few24_ok (fr:Bool) (l:List ActL) (most:Int):PCon prog 9 [encActs fr l,.int .i64 most] (.bool (few24S l most)):=by
 refine callV_of (fn:=Go.Proofs.Tryz.f9) (body:=_) tab_ok mixed rfl rfl (by decide) (by simp[Go.Proofs.Tryz.f9]) ?_
 conv=>whnf
 refine vcg_loop tab_ok mixed (fun i:{i:Nat // i≤l.length∧∀j,(h:j < l.length)→j < i→few24X l[j]=true}=>⟨[(0,encActs fr l),(1,.int .i64 most),(5,cI i.1)],[],0⟩) (fun i=>l.length - i.1) ⟨0,by omega,fun j _ h=>by omega⟩ (Wk.i (by repeat' (first|exact LHa|exact .int_of (by simp)|exact .A|exact LeL.fr rfl|exact LHb|refine Or.inl ⟨by simp,_,rfl,?_⟩|exact Or.inr ⟨by simp,_,_,_,_,rfl⟩|refine⟨rfl,rfl,rfl,rfl,rfl,rfl,?_⟩|refine⟨?_,?_⟩)) (by omega)) (fun i=>?_)
 obtain⟨i,hi,hz⟩:=i
 conv=>whnf
 intro hgl
 have hgl:l.length≤maxLen:=by simpa[gd]using hgl
 conv=>whnf
 split
 ·rename_i hc
  have hc:i < l.length:=by simpa using hc
  conv=>whnf
  refine ixK (idxAct hc) ?_
  conv=>whnf
  intro _
  conv=>whnf
  split
  ·rename_i hh
   conv=>whnf
   exact(Ends.pure [] (by repeat' (first|exact True.intro|exact .bool_of (few24S_false hc (few24X_1 (by simp[few24U];intro h;simp[rowsP]at hh;omega))).symm|exact .A|exact LeL.fr rfl|refine .tupL ?_|refine .aggL ?_|refine⟨?_,?_⟩)) (by simp))
  rename_i h1
  conv=>whnf
  intro _
  conv=>whnf
  split
  ·rename_i hh
   conv=>whnf
   exact(Ends.pure [] (by repeat' (first|exact True.intro|exact .bool_of (few24S_false hc (few24X_1 (by simp[few24U];intro _ h;simp[rowsP]at hh;omega))).symm|exact .A|exact LeL.fr rfl|refine .tupL ?_|refine .aggL ?_|refine⟨?_,?_⟩)) (by simp))
  rename_i h2
  conv=>whnf
  intro _
  conv=>whnf
  split
  ·rename_i hh
   conv=>whnf
   exact(Ends.pure [] (by repeat' (first|exact True.intro|exact .bool_of (few24S_false hc (few24X_1 (by simp[few24U];intro _ _ h;simp at hh;omega))).symm|exact .A|exact LeL.fr rfl|refine .tupL ?_|refine .aggL ?_|refine⟨?_,?_⟩)) (by simp))
  rename_i h3
  conv=>whnf
  intro _
  conv=>whnf
  split
  ·rename_i hh
   conv=>whnf
   exact(Ends.pure [] (by repeat' (first|exact True.intro|exact .bool_of (few24S_false hc (few24X_1 (by simp[few24U];intro _ _ _;simp at hh;omega))).symm|exact .A|exact LeL.fr rfl|refine .tupL ?_|refine .aggL ?_|refine⟨?_,?_⟩)) (by simp))
  rename_i h4
  conv=>whnf
  refine ixK (idxAct hc) ?_
  conv=>whnf
  intro _
  conv=>whnf
  split
  ·rename_i hh
   conv=>whnf
   exact(Ends.pure [] (by repeat' (first|exact True.intro|exact .bool_of (few24S_false hc (few24X_2 (by intro h;simp at hh;omega))).symm|exact .A|exact LeL.fr rfl|refine .tupL ?_|refine .aggL ?_|refine⟨?_,?_⟩)) (by simp))
  rename_i h5
  conv=>whnf
  have hU:few24U l[i].upd=true:=by
   simp[few24U]
   simp[rowsP]at h1 h2 h3 h4
   omega
  have hP:decide (l[i].pol.rules.length≤30)=true:=by
   simp at h5 ⊢
   omega
  refine vcg_loop tab_ok mixed (fun k:{k:Nat // k≤l[i].upd.attrs.path.length∧∀j,(h:j < l[i].upd.attrs.path.length)→j < k→l[i].upd.attrs.path[j].ns.length≤40}=>⟨[(0,encActs fr l),(1,.int .i64 most),(5,cI i),(6,.ptr 0 0),(7,cI k.1)],[(0,some (.var true 29 (cellsU fr l[i].upd)))],1⟩) (fun k=>l[i].upd.attrs.path.length - k.1) ⟨0,by omega,fun j _ h=>by omega⟩ (Wk.i (by repeat' (first|exact LHa|exact LeL.freeV (cellsU_free fr _)|exact .int_of (by simp)|exact .A|exact LeL.fr rfl|exact LHb|refine Or.inl ⟨by simp,_,rfl,?_⟩|exact Or.inr ⟨by simp,_,_,_,_,rfl⟩|refine⟨rfl,rfl,rfl,rfl,rfl,rfl,?_⟩|refine⟨?_,?_⟩)) (by omega)) (fun k=>?_)
  obtain⟨k,hk,hzk⟩:=k
  conv=>whnf
  intro hgk
  have hgk:l[i].upd.attrs.path.length≤maxLen:=by simpa[gd]using hgk
  conv=>whnf
  split
  ·rename_i hck
   have hck:k < l[i].upd.attrs.path.length:=by simpa using hck
   conv=>whnf
   refine ixK (idxL hck) ?_
   conv=>whnf
   intro _
   conv=>whnf
   split
   ·rename_i hh
    conv=>whnf
    exact(Ends.pure [] (by repeat' (first|exact True.intro|exact .bool_of (few24S_false hc (few24X_3 hck (by intro h;simp at hh;omega))).symm|exact .A|exact LeL.fr rfl|refine .tupL ?_|refine .aggL ?_|refine⟨?_,?_⟩)) (by simp))
   ·rename_i hh
    conv=>whnf
    exact⟨⟨k + 1,by omega,fun j hj hlt=>by
     rcases Nat.lt_or_ge j k with h|h
     ·exact hzk j hj h
     ·obtain rfl:j=k:=by omega
      simp at hh;omega⟩,(Wk.i (by repeat' (first|exact LHa|exact LeL.freeV (cellsU_free fr _)|exact .int_of (wrap64_succ hck hgk)|exact .A|exact LeL.fr rfl|exact LHb|refine Or.inl ⟨by simp,_,rfl,?_⟩|exact Or.inr ⟨by simp,_,_,_,_,rfl⟩|refine⟨rfl,rfl,rfl,rfl,rfl,rfl,?_⟩|refine⟨?_,?_⟩)) (by omega)),by simp only;omega⟩
  rename_i hck
  have hck:k=l[i].upd.attrs.path.length:=by simp at hck;omega
  have hX:few24X l[i]=true:=by
   rw[few24X,hU,hP,few24P,List.all_eq_true.2 (fun x hx=>by obtain⟨j,hj,rfl⟩:=List.getElem_of_mem hx;exact decide_eq_true (hzk j hj (by omega)))]
   rfl
  conv=>whnf
  exact⟨⟨i + 1,by omega,fun j hj hlt=>by
   rcases Nat.lt_or_ge j i with h|h
   ·exact hz j hj h
   ·obtain rfl:j=i:=by omega
    exact hX⟩,(Wk.i (by repeat' (first|exact LHa|exact .int_of (wrap64_succ hc hgl)|exact .A|exact LeL.fr rfl|exact LHb|refine Or.inl ⟨by simp,_,rfl,?_⟩|exact Or.inr ⟨by simp,_,_,_,_,rfl⟩|refine⟨rfl,rfl,rfl,rfl,rfl,rfl,?_⟩|refine⟨?_,?_⟩)) (by omega)),by simp only;omega⟩
 rename_i hc
 have hc:i=l.length:=by simp at hc;omega
 subst hc
 conv=>whnf
 intro _
 conv=>whnf
 exact(Ends.pure [] (by repeat' (first|exact True.intro|exact .bool_of (by rw[few24S,List.all_eq_true.2 (fun x hx=>by obtain⟨j,hj,rfl⟩:=List.getElem_of_mem hx;exact hz j hj hj)];simp)|exact .A|exact LeL.fr rfl|refine .tupL ?_|refine .aggL ?_|refine⟨?_,?_⟩)) (by simp))
end
section
open Go.Proofs.Tryz (prog)
attribute [local irreducible] CallV RoundV aggK
def ten24:Prefix:=⟨167772160,8⟩
def oth24:Prefix:=⟨184549376,8⟩
def pe2:Peer:=⟨2,2,2,false⟩
def polE:Policy:=⟨[],true⟩
def upd1 (p:Prefix) (l:List UInt32):Upd:=⟨[],[p],saidA l⟩
def mA:List (Prefix × Attrs):=[(ten24,saidA [2])]
def mB:List (Prefix × Attrs):=[(ten24,saidA [2,1])]
def mC:List (Prefix × Attrs):=[(ten24,saidA [2,1]),(oth24,saidA [3])]
theorem rise1_24 {p:Prefix} (h:prefOk p=true):riseP [p]=true:=riseP_iff.2 fun j hj=>by
 obtain rfl:j=0:=by simp at hj;omega
 exact⟨h,fun h0=>absurd h0 (by omega)⟩
theorem rise0_24:riseP []=true:=riseP_iff.2 fun j hj=>by simp at hj
theorem sortPs_self {l:List Prefix} (h:l.Pairwise (fun x y=>pkey x≤pkey y)):sortPs l=l:=sorted_eq (List.mergeSort_perm _ _) (sortPs_sorted l) h
theorem stA:takeM [] (upd1 ten24 [2]).gone (upd1 ten24 [2]).new (upd1 ten24 [2]).attrs=mA:=by decide
theorem stB:takeM mA (upd1 ten24 [2,1]).gone (upd1 ten24 [2,1]).new (upd1 ten24 [2,1]).attrs=mB:=by decide
theorem stC:takeM mB (upd1 oth24 [3]).gone (upd1 oth24 [3]).new (upd1 oth24 [3]).attrs=mC:=by decide
theorem chA:chgs 1 pe2 polE polE [] mA=[⟨ten24,true,saidA [2]⟩]:=by
 unfold chgs
 rw[show dd (keysE []++ keysE mA)=[ten24]by decide,sortPs_self (by decide)]
 decide
theorem chB:chgs 1 pe2 polE polE mA mB=[⟨ten24,false,noA⟩]:=by
 unfold chgs
 rw[show dd (keysE mA ++ keysE mB)=[ten24]by decide,sortPs_self (by decide)]
 decide
theorem chC:chgs 1 pe2 polE polE mB mC=[]:=by
 unfold chgs
 rw[show dd (keysE mB ++ keysE mC)=[ten24,oth24]by decide,sortPs_self (by decide)]
 decide
theorem chD:chgs 1 pe2 polE polE mC []=[]:=by
 unfold chgs
 rw[show dd (keysE mC ++ keysE [])=[ten24,oth24]by decide,sortPs_self (by decide)]
 decide
theorem ck1 {p:Prefix} {l:List UInt32} (hp:prefOk p=true) (h1:rightA (saidA l)=true) (h2:(bodyB (upd1 p l)).length≤493):checkU (upd1 p l)=0:=by
 have hm:mayU (upd1 p l)=true:=by
  simp[mayU,upd1,rise0_24,rise1_24 hp,apartP,saidU,h1]
 rw[checkU,if_pos hm,if_neg (by omega)]
theorem ckA:checkU (upd1 ten24 [2])=0:=ck1 (by decide) (by decide) (by decide)
theorem ckB:checkU (upd1 ten24 [2,1])=0:=ck1 (by decide) (by decide) (by decide)
theorem ckC:checkU (upd1 oth24 [3])=0:=ck1 (by decide) (by decide) (by decide)
end
section
open Go.Proofs.Tryz (prog)
attribute [local irreducible] CallV RoundV aggK
theorem small24 {u:Upd} (h1:u.gone.length≤1000) (h2:u.new.length≤1000) (h3:fewA u.attrs=true):Small u:=⟨h1,h2,h3⟩
instance {a:Attrs}:Decidable (smallA a):=inferInstanceAs (Decidable (_∧_∧_))
instance {m:List (Prefix × Attrs)}:Decidable (NodE m):=inferInstanceAs (Decidable (List.Nodup _))
theorem works24_ok:PCon prog 12 [] (.bool true):=by
 have hA:=take_ok (okM_nil 1 pe2 polE) (upd1 ten24 [2]) (small24 (by decide) (by decide) (by decide)) ckA (by decide) (by decide) (okM_of (by decide) (by decide) (by decide))
 rw[stA,chA]at hA
 have hB:=take_ok (m:=mA) (own:=1) (pe:=pe2) (pol:=polE) (okM_of (by decide) (by decide) (by decide)) (upd1 ten24 [2,1]) (small24 (by decide) (by decide) (by decide)) ckB (by decide) (by decide) (okM_of (by decide) (by decide) (by decide))
 rw[stB,chB]at hB
 have hC:=take_ok (m:=mB) (own:=1) (pe:=pe2) (pol:=polE) (okM_of (by decide) (by decide) (by decide)) (upd1 oth24 [3]) (small24 (by decide) (by decide) (by decide)) ckC (by decide) (by decide) (okM_of (by decide) (by decide) (by decide))
 rw[stC,chC]at hC
 have kA:=counts24_ok (m:=mA) (own:=1) (pe:=pe2) (pol:=polE) (okM_of (by decide) (by decide) (by decide)) ten24
 rw[show(getE mA ten24).bind (cnt 1 pe2 polE ten24)=some (saidA [2])by decide]at kA
 have kB:=counts24_ok (m:=mB) (own:=1) (pe:=pe2) (pol:=polE) (okM_of (by decide) (by decide) (by decide)) ten24
 rw[show(getE mB ten24).bind (cnt 1 pe2 polE ten24)=none by decide]at kB
 have sB:=said24_ok (m:=mB) (own:=1) (pe:=pe2) (pol:=polE) (okM_of (by decide) (by decide) (by decide)) ten24
 rw[show getE mB ten24=some (saidA [2,1])by decide]at sB
 have cD:=clear_ok (m:=mC) (own:=1) (pe:=pe2) (pol:=polE) (okM_of (by decide) (by decide) (by decide)) (okM_nil _ _ _)
 rw[chD]at cD
 have n0:=num24_ok 0
 have hnew:=new_ok 1 pe2 polE (by decide)
 refine callV_of (fn:=Go.Proofs.Tryz.f12) (body:=_) tab_ok mixed rfl rfl (by decide) (by simp[Go.Proofs.Tryz.f12]) ?_
 conv=>whnf
 refine callV_frame (nx:=2) (n0:=0) id hnew ⟨.fr rfl,.fr rfl,.aggL ⟨.snil_sl,.fr rfl,trivial⟩,trivial⟩ (LeH.nil (by omega) (fun _ h=>by omega) (by simp)) (fun b hb=>by omega) (fun b hb=>by omega) ?_
 rintro v h' nx' ⟨rfl,rfl,rfl⟩ _
 refine⟨.tup [.ptr 2 0,.int .i64 0],[(2,some (.var true 99 (cellsIn 1 pe2 polE []))),(0,some (.var true 53 (cellsP ten24))),(1,some (.var true 53 (cellsP oth24)))],.tup ⟨.ptr rfl,.free .int,trivial⟩,(by repeat' (first|exact True.intro|exact Or.inr ⟨by decide,rfl⟩|exact Or.inl ⟨0,rfl,by omega,_,rfl,.var (cellsIn_free _ _ _ _)⟩|refine⟨?_,?_⟩)),?_⟩
 conv=>whnf
 refine⟨encA true (saidA [2]),[(4,some (.arr true true 24 1 [[.int .u32 2]]))],fun h nx hrd=>?_,by intro b ob hb;simp at hb;obtain⟨rfl,rfl⟩:=hb;rfl,?_⟩
 ·have h4:hget h 4=some (.arr true true 24 1 [[.int .u32 2]]):=hrd _ _ (by simp)
  exact pureV_lend [4] (lsaid_ok false [2] (by decide)) ⟨LeV.fresh_off (LeV.freeze_of (by simp) h4 (by simp) (rowsW_free [2]) rfl),trivial⟩ (by intro v hv;obtain rfl:=List.mem_singleton.1 hv;exact encW_cold _) (one_none h4) (encA_fresh _)
 conv=>whnf
 refine⟨.tup [encChs true [⟨ten24,true,saidA [2]⟩],.int .i64 0],[(2,some (.var true 99 (cellsIn 1 pe2 polE []))),(3,some (.arr true true 53 2 [cellsP ten24]))],[(2,some (.var true 99 (cellsIn 1 pe2 polE mA))),(3,none)],fun h nx hrd=>?_,by intro b ob hb;simp at hb;rcases hb with⟨rfl,rfl⟩|⟨rfl,rfl⟩<;>rfl,?_⟩
 ·have h2:hget h 2=some (.var true 99 (cellsIn 1 pe2 polE [])):=hrd _ _ (by simp)
  have h3:hget h 3=some (.arr true true 53 2 [cellsP ten24]):=hrd _ _ (by simp)
  exact updV_var (Z:=[3]) hA (tupCh_free _ _) h2 (by simp) (one_none h3) (cellsIn_free _ _ _ _) (cellsIn_free _ _ _ _) ⟨.ptr rfl (by omega),.aggL ⟨.snil_sl,LeV.fresh_off (LeV.freezeE (ys:=rowsP [ten24]) (by simp) h3 (by decide) rfl (rowsP_free _)),.fr rfl,.less (.free (encLegs_free _ _)) Less.legs,.fr rfl,.fr rfl,.fr rfl,.fr rfl,.fr rfl,.less (.free (encW_free _ _)) Less.encW,trivial⟩,trivial⟩
 conv=>whnf
 refine⟨by kernel_rfl,?_⟩
 conv=>whnf
 refine callV_in kA rfl (cellsIn_free _ _ _ _) (cellsIn_free _ _ _ _) ⟨.ptr rfl (by omega),.fr rfl,trivial⟩ ?_
 rintro v rfl
 refine⟨rtV_free _ _ _ _,?_⟩
 show _
 conv=>whnf
 refine⟨encA true (saidA [2,1]),[(7,some (.arr true true 24 1 [[.int .u32 2],[.int .u32 1]]))],fun h nx hrd=>?_,by intro b ob hb;simp at hb;obtain⟨rfl,rfl⟩:=hb;rfl,?_⟩
 ·have h4:hget h 7=some (.arr true true 24 1 [[.int .u32 2],[.int .u32 1]]):=hrd _ _ (by simp)
  exact pureV_lend [7] (lsaid_ok false [2,1] (by decide)) ⟨LeV.fresh_off (LeV.freeze_of (by simp) h4 (by simp) (rowsW_free [2,1]) rfl),trivial⟩ (by intro v hv;obtain rfl:=List.mem_singleton.1 hv;exact encW_cold _) (one_none h4) (encA_fresh _)
 conv=>whnf
 refine⟨.tup [encChs true [⟨ten24,false,noA⟩],.int .i64 0],[(2,some (.var true 99 (cellsIn 1 pe2 polE mA))),(6,some (.arr true true 53 2 [cellsP ten24]))],[(2,some (.var true 99 (cellsIn 1 pe2 polE mB))),(6,none)],fun h nx hrd=>?_,by intro b ob hb;simp at hb;rcases hb with⟨rfl,rfl⟩|⟨rfl,rfl⟩<;>rfl,?_⟩
 ·have h2:hget h 2=some (.var true 99 (cellsIn 1 pe2 polE mA)):=hrd _ _ (by simp)
  have h3:hget h 6=some (.arr true true 53 2 [cellsP ten24]):=hrd _ _ (by simp)
  exact updV_var (Z:=[6]) hB (tupCh_free _ _) h2 (by simp) (one_none h3) (cellsIn_free _ _ _ _) (cellsIn_free _ _ _ _) ⟨.ptr rfl (by omega),.aggL ⟨.snil_sl,LeV.fresh_off (LeV.freezeE (ys:=rowsP [ten24]) (by simp) h3 (by decide) rfl (rowsP_free _)),.fr rfl,.less (.free (encLegs_free _ _)) Less.legs,.fr rfl,.fr rfl,.fr rfl,.fr rfl,.fr rfl,.less (.free (encW_free _ _)) Less.encW,trivial⟩,trivial⟩
 conv=>whnf
 refine⟨by kernel_rfl,?_⟩
 conv=>whnf
 refine callV_in kB rfl (cellsIn_free _ _ _ _) (cellsIn_free _ _ _ _) ⟨.ptr rfl (by omega),.fr rfl,trivial⟩ ?_
 rintro v rfl
 refine⟨rtV_free _ _ _ _,?_⟩
 show _
 conv=>whnf
 refine callV_in sB rfl (cellsIn_free _ _ _ _) (cellsIn_free _ _ _ _) ⟨.ptr rfl (by omega),.fr rfl,trivial⟩ ?_
 rintro v rfl
 refine⟨.tup (by simp;exact⟨encA_free _ _,.bool⟩),?_⟩
 show _
 conv=>whnf
 refine⟨encA true (saidA [3]),[(11,some (.arr true true 24 1 [[.int .u32 3]]))],fun h nx hrd=>?_,by intro b ob hb;simp at hb;obtain⟨rfl,rfl⟩:=hb;rfl,?_⟩
 ·have h4:hget h 11=some (.arr true true 24 1 [[.int .u32 3]]):=hrd _ _ (by simp)
  exact pureV_lend [11] (lsaid_ok false [3] (by decide)) ⟨LeV.fresh_off (LeV.freeze_of (by simp) h4 (by simp) (rowsW_free [3]) rfl),trivial⟩ (by intro v hv;obtain rfl:=List.mem_singleton.1 hv;exact encW_cold _) (one_none h4) (encA_fresh _)
 conv=>whnf
 refine⟨.tup [encChs true [],.int .i64 0],[(2,some (.var true 99 (cellsIn 1 pe2 polE mB))),(10,some (.arr true true 53 2 [cellsP oth24]))],[(2,some (.var true 99 (cellsIn 1 pe2 polE mC))),(10,none)],fun h nx hrd=>?_,by intro b ob hb;simp at hb;rcases hb with⟨rfl,rfl⟩|⟨rfl,rfl⟩<;>rfl,?_⟩
 ·have h2:hget h 2=some (.var true 99 (cellsIn 1 pe2 polE mB)):=hrd _ _ (by simp)
  have h3:hget h 10=some (.arr true true 53 2 [cellsP oth24]):=hrd _ _ (by simp)
  exact updV_var (Z:=[10]) hC (tupCh_free _ _) h2 (by simp) (one_none h3) (cellsIn_free _ _ _ _) (cellsIn_free _ _ _ _) ⟨.ptr rfl (by omega),.aggL ⟨.snil_sl,LeV.fresh_off (LeV.freezeE (ys:=rowsP [oth24]) (by simp) h3 (by decide) rfl (rowsP_free _)),.fr rfl,.less (.free (encLegs_free _ _)) Less.legs,.fr rfl,.fr rfl,.fr rfl,.fr rfl,.fr rfl,.less (.free (encW_free _ _)) Less.encW,trivial⟩,trivial⟩
 conv=>whnf
 refine⟨by kernel_rfl,?_⟩
 conv=>whnf
 refine callV_in cD rfl (cellsIn_free _ _ _ _) (cellsIn_free _ _ _ _) ⟨.ptr rfl (by omega),trivial⟩ ?_
 rintro v rfl
 refine⟨tupCh_free _ _,?_⟩
 show _
 conv=>whnf
 refine callV_pure n0 ⟨.fr rfl,trivial⟩ ?_
 conv=>whnf
 refine callV_pure n0 ⟨.fr rfl,trivial⟩ ?_
 conv=>whnf
 refine callV_pure n0 ⟨.fr rfl,trivial⟩ ?_
 conv=>whnf
 refine callV_pure n0 ⟨.fr rfl,trivial⟩ ?_
 conv=>whnf
 refine callV_pure n0 ⟨.fr rfl,trivial⟩ ?_
 conv=>whnf
 intro _
 conv=>whnf
 refine⟨rfl,_,⟨by decide,rfl⟩,?_⟩
 conv=>whnf
 intro _
 conv=>whnf
 refine⟨rfl,_,⟨by decide,rfl⟩,?_⟩
 conv=>whnf
 intro _
 conv=>whnf
 intro _
 conv=>whnf
 intro _
 conv=>whnf
 refine callV_in (len24_ok 1 pe2 polE []) rfl (cellsIn_free _ _ _ _) (cellsIn_free _ _ _ _) ⟨.ptr rfl (by omega),trivial⟩ ?_
 rintro v rfl
 refine⟨.int,?_⟩
 show _
 conv=>whnf
 exact(Ends.pA)
end
section
open Go.Proofs.Tryz (prog)
attribute [local irreducible] CallV RoundV aggK VC VM CallB VH
theorem few24_small {x:ActL} (h:few24X x=true):Small x.upd∧smallA x.upd.attrs∧x.upd.new.length≤100:=by
 simp only[few24X,few24U,few24P,Bool.and_eq_true,decide_eq_true_eq,List.all_eq_true]at h
 obtain⟨⟨⟨⟨⟨h1,h2⟩,h3⟩,h4⟩,_⟩,h5⟩:=h
 have hsm:smallA x.upd.attrs:=⟨by omega,fun p hp=>Nat.le_trans (h5 p hp) (by omega),by omega⟩
 refine⟨⟨by omega,by omega,?_⟩,hsm,by omega⟩
 simp only[fewA,Bool.and_eq_true,decide_eq_true_eq,List.all_eq_true]
 exact⟨⟨fun p hp=>Nat.le_trans (h5 p hp) (by omega),by omega⟩,by omega⟩
instance {fr l}:FreeI (encChs fr l):=⟨⟨encChs_free fr l⟩⟩
end
section
open Go.ChangeShapes Go.WideShapes
open Go.Proofs.Tryz (prog)
theorem rep_prefs24:RepOk prog 22 (fun l:List Prefix=>[encPs false l]):=
 rep_slice (cells:=cellsP) Go.Proofs.Tryz.underlying22 (by kernel_rfl) (by decide) (fun _=>rfl) rep_prefix
theorem rep_update24:RepOk prog 29 (cellsU false):=fun enc w sp fuel cs x h=>by
 have ht:=Go.Proofs.Tryz.underlying29
 obtain⟨xs,n,_,_,hlen,_,_⟩:=DataW.trod_struct ht h
 have hl:cs.length=10:=hlen.trans (by kernel_rfl)
 obtain⟨g,h0,o0⟩:=field_at ht h 0 rfl rep_prefs24 rfl (by kernel_rfl)
 obtain⟨n,h1,o1⟩:=field_at ht h 1 rfl rep_prefs24 rfl (by kernel_rfl)
 obtain⟨a,h2,o2⟩:=field_of ht h (f:=_) (i:=2) rfl rep_attrs
 have hz:prog.cellsOf 27=8:=by kernel_rfl
 change vrs (G0 w) w (cellsA false a) ((cs.drop 2).take (prog.cellsOf 27))at h2
 change ∀u∈(cs.drop 2).take (prog.cellsOf 27),u.oneCell'=true at o2
 rw[hz,List.take_of_length_le (by rw[List.length_drop];omega)]at h2 o2
 have j:=vrs_join (vrs_join vrs_take0 h0 rfl (by omega)) h1 rfl (by omega)
 have k:=one_join (one_join (by simp) o0 rfl (by omega)) o1 rfl (by omega)
 have e:cs.take 2 ++ cs.drop 2=cs:=List.take_append_drop 2 cs
 refine⟨⟨g,n,a⟩,?_,?_⟩
 ·have:=j.append h2
  rw[e]at this
  exact this
 ·intro u hu
  rw[← e]at hu
  rcases List.mem_append.1 hu with hu|hu
  ·exact k u hu
  ·exact o2 u hu
theorem rep_peer:RepOk prog 45 cellsPe:=fun enc w sp fuel cs x h=>by
 have ht:=Go.Proofs.Tryz.underlying45
 obtain⟨xs,n,_,_,hlen,_,_⟩:=DataW.trod_struct ht h
 have hl:cs.length=4:=hlen.trans (by kernel_rfl)
 obtain⟨a,h0,o0⟩:=field_at ht h 0 rfl (rep_u32 Go.Proofs.Tryz.underlying24) rfl (by kernel_rfl)
 obtain⟨b,h1,o1⟩:=field_at ht h 1 rfl (rep_u32 Go.Proofs.Tryz.underlying24) rfl (by kernel_rfl)
 obtain⟨c,h2,o2⟩:=field_at ht h 2 rfl (rep_u32 Go.Proofs.Tryz.underlying24) rfl (by kernel_rfl)
 obtain⟨d,h3,o3⟩:=field_at ht h 3 rfl (rep_bool Go.Proofs.Tryz.underlying4) rfl (by kernel_rfl)
 have j1:=vrs_join (vrs_join (vrs_join (vrs_join vrs_take0 h0 rfl (by omega)) h1 rfl (by omega)) h2 rfl (by omega)) h3 rfl (by omega)
 have k1:=one_join (one_join (one_join (one_join (by simp) o0 rfl (by omega)) o1 rfl (by omega)) o2 rfl (by omega)) o3 rfl (by omega)
 rw[List.take_of_length_le (by omega)]at j1 k1
 exact⟨⟨a,b,c,d⟩,j1,k1⟩
theorem arg_peer:ArgOk prog 45 encPe:=arg_struct Go.Proofs.Tryz.underlying45 rep_peer
def encUs (fr:Bool) (l:List Upd):V:=.sl fr 10 (l.map (cellsU fr))
theorem arg_updates:ArgOk prog 71 (encUs false):=arg_slice Go.Proofs.Tryz.underlying71 (rep_slice (cells:=cellsU false) Go.Proofs.Tryz.underlying71 (by kernel_rfl) (by decide) (fun _=>rfl) rep_update24)
theorem read_peer:prog.readableRec 45=true∧45 < prog.types.size:=⟨by kernel_rfl,of_decide_eq_true (by kernel_rfl)⟩
theorem read_updates:prog.readableRec 71=true∧71 < prog.types.size:=⟨by kernel_rfl,of_decide_eq_true (by kernel_rfl)⟩
end
section
open Go.Proofs.Tryz (prog)
theorem few24_at {l:List ActL} {most:Int} (h:few24S l most=true) {i:Nat} (hi:i < l.length):few24X l[i]=true:=by
 rw[few24S,Bool.and_eq_true,List.all_eq_true]at h
 exact h.1 _ (List.getElem_mem hi)
attribute [local irreducible] CallV RoundV aggK
end
section
open Go.Proofs.Tryz (prog)
attribute [local irreducible] CallV RoundV aggK
theorem cellsU24_cold (u:Upd):∀v∈cellsU false u,Cold v:=by
 intro v hv
 simp only[cellsU,cellsA,List.mem_cons,List.not_mem_nil,or_false]at hv
 rcases hv with rfl|rfl|rfl|rfl|rfl|rfl|rfl|rfl|rfl|rfl
 all_goals first|exact .int|exact .bool|exact encLegs_cold _|exact encW_cold _|exact encPs_cold _
theorem cellsAct_cold (x:ActL):∀v∈cellsAct false x,Cold v:=by
 intro v hv
 simp only[cellsAct,List.mem_cons,List.mem_append]at hv
 rcases hv with rfl|hv|hv
 ·exact .int
 ·exact cellsU24_cold _ v hv
 ·simp[cellsPo]at hv
  rcases hv with rfl|rfl
  ·exact encRus_cold _
  ·exact .bool
theorem encActs_cold (l:List ActL):Cold (encActs false l):=.sl fun x hx v hv=>by
 obtain⟨c,_,rfl⟩:=List.mem_map.1 hx
 exact cellsAct_cold c v hv
end
section
open Go.Proofs.Tryz (prog)
attribute [local irreducible] CallV RoundV aggK
def laidC (l:List Change) (c:Change):List Change:=l.filter (fun x=>!decide (x.pfx=c.pfx))++ (if c.has then [c]else [])
def laidsC (l d:List Change):List Change:=d.foldl laidC l
abbrev pairC (l:List Change):List (Prefix × Attrs):=l.map fun c=>(c.pfx,c.attrs)
theorem laidC_len (l:List Change) (c:Change):(laidC l c).length≤l.length + 1:=by
 have:=List.length_filter_le (fun x:Change=>!decide (x.pfx=c.pfx)) l
 rw[laidC,List.length_append]
 split<;>simp<;>omega
theorem laidsC_len:∀(d l:List Change),(laidsC l d).length≤l.length + d.length
 | [],l=>by simp[laidsC]
 | c :: d,l=>by
  have:=laidsC_len d (laidC l c)
  have h2:=laidC_len l c
  simp only[laidsC,List.foldl_cons,List.length_cons]at *
  omega
theorem pair_laid (l:List Change) (c:Change):pairC (laidC l c)=delE (pairC l) c.pfx ++ (if c.has then [(c.pfx,c.attrs)]else []):=by
 unfold pairC laidC delE
 rw[List.map_append,List.filter_map]
 congr 1
 split<;>rfl
theorem getE_app {α:Type} (l l':List (Prefix × α)) (q:Prefix):getE (l ++ l') q=(getE l q).or (getE l' q):=by
 unfold getE
 rw[List.find?_append]
 cases l.find? (fun e=>decide (e.1=q))<;>simp
theorem get_laid (l:List Change) (c:Change) (q:Prefix):getE (pairC (laidC l c)) q=if q=c.pfx then(if c.has then some c.attrs else none)else getE (pairC l) q:=by
 rw[pair_laid,getE_app,getE_del]
 by_cases hq:q=c.pfx
 ·rw[if_pos hq,if_pos hq]
  subst hq
  cases c.has<;>simp[getE]
 ·rw[if_neg hq,if_neg hq]
  have h2:getE (if c.has then [(c.pfx,c.attrs)]else []) q=none:=by
   cases c.has with
   | false=>rfl
   | true=>simp[getE,Ne.symm hq]
  rw[h2]
  cases getE (pairC l) q<;>rfl
theorem nod_laid {l:List Change} (h:NodE (pairC l)) (c:Change):NodE (pairC (laidC l c)):=by
 rw[pair_laid]
 unfold NodE keysE
 rw[List.map_append]
 refine List.nodup_append.2 ⟨nod_del h,by split<;>simp,fun a ha b hb e=>?_⟩
 subst e
 have h1:=(keys_del (l:=pairC l)).1 ha
 split at hb
 ·simp at hb;exact h1.1 hb
 ·simp at hb
theorem nod_laids:∀{d l:List Change},NodE (pairC l)→NodE (pairC (laidsC l d))
 | [],_,h=>h
 | c :: d,_,h=>nod_laids (d:=d) (nod_laid h c)
theorem get_laids {z:Attrs} {f g:Prefix→Option Attrs}:∀(ks:List Prefix) (l:List Change) (q:Prefix),getE (pairC (laidsC l (ks.filterMap (chg z f g)))) q=if q∈ks∧f q ≠ g q then g q else getE (pairC l) q
 | [],l,q=>by simp[laidsC]
 | p :: ks,l,q=>by
  by_cases hp:f p=g p
  ·rw[List.filterMap_cons,show chg z f g p=none from if_pos hp]
   have:=get_laids (z:=z) (f:=f) (g:=g) ks l q
   rw[this]
   by_cases hq:q∈ks∧f q ≠ g q
   ·rw[if_pos hq,if_pos ⟨List.mem_cons_of_mem _ hq.1,hq.2⟩]
   ·rw[if_neg hq,if_neg]
    rintro ⟨h1,h2⟩
    rcases List.mem_cons.1 h1 with rfl|h1
    ·exact h2 hp
    ·exact hq ⟨h1,h2⟩
  ·rw[List.filterMap_cons,show chg z f g p=some ⟨p,(g p).isSome,(g p).getD z⟩from if_neg hp]
   have:=get_laids (z:=z) (f:=f) (g:=g) ks (laidC l ⟨p,(g p).isSome,(g p).getD z⟩) q
   show getE (pairC (laidsC (laidC l ⟨p,(g p).isSome,(g p).getD z⟩) (ks.filterMap (chg z f g)))) q=_
   rw[this,get_laid]
   by_cases hq:q=p
   ·subst hq
    have e1:q∈q :: ks∧f q ≠ g q:=⟨List.mem_cons_self,hp⟩
    rw[if_pos e1,if_pos rfl]
    split
    ·rfl
    ·cases g q<;>rfl
   ·rw[if_neg hq]
    by_cases h:q∈ks∧f q ≠ g q
    ·rw[if_pos h,if_pos ⟨List.mem_cons_of_mem _ h.1,h.2⟩]
    ·rw[if_neg h,if_neg]
     rintro ⟨h1,h2⟩
     rcases List.mem_cons.1 h1 with rfl|h1
     ·exact hq rfl
     ·exact h ⟨h1,h2⟩
def cntAt (own:UInt32) (pe:Peer) (pol:Policy) (m:List (Prefix × Attrs)) (q:Prefix):Option Attrs:=(getE m q).bind (cnt own pe pol q)
theorem cntAt_key {own:UInt32} {pe:Peer} {pol:Policy} {m:List (Prefix × Attrs)} {q:Prefix} (h:cntAt own pe pol m q ≠ none):q∈keysE m∧prefOk q=true:=by
 unfold cntAt at h
 cases hx:getE m q with
 | none=>rw[hx]at h;exact absurd rfl h
 | some a=>
  rw[hx]at h
  cases hcc:cnt own pe pol q a with
  | none=>exact absurd hcc h
  | some b=>exact⟨getE_key hx,cnt_pref hcc⟩
theorem laid_chgs {own:UInt32} {pe:Peer} {pol:Policy} {m n:List (Prefix × Attrs)} {l:List Change} (h:∀q,getE (pairC l) q=cntAt own pe pol m q) (q:Prefix):getE (pairC (laidsC l (chgs own pe pol pol m n))) q=cntAt own pe pol n q:=by
 unfold chgs
 rw[get_laids]
 by_cases he:cntAt own pe pol m q=cntAt own pe pol n q
 ·rw[if_neg (fun hh=>hh.2 he),h,he]
 ·rw[if_pos]
  ·rfl
  refine⟨mem_sortPs.2 ?_,he⟩
  by_cases hm:cntAt own pe pol m q=none
  ·obtain⟨h1,h2⟩:=cntAt_key (m:=n) (q:=q) (fun e=>he (hm.trans e.symm))
   exact mem_dd (by simp[h1]) h2
  ·obtain⟨h1,h2⟩:=cntAt_key hm
   exact mem_dd (by simp[h1]) h2
theorem cnt_seen {own:UInt32} {pe:Peer} {pol:Policy} {m:List (Prefix × Attrs)} {l:List Change} (hn:NodE m) (hl:NodE (pairC l)) (h:∀q,getE (pairC l) q=cntAt own pe pol m q):((sortPs (keysE m)).filter fun q=>(cntAt own pe pol m q).isSome).length=l.length:=by
 have h1:(sortPs (keysE m)).Nodup:=(List.mergeSort_perm _ _).nodup_iff.2 hn
 have hp:((sortPs (keysE m)).filter fun q=>(cntAt own pe pol m q).isSome).Perm (keysE (pairC l)):=by
  refine(List.perm_ext_iff_of_nodup (h1.filter _) hl).2 fun q=>?_
  rw[List.mem_filter,mem_sortPs]
  constructor
  ·rintro ⟨_,h3⟩
   rw[← h]at h3
   obtain⟨a,ha⟩:=Option.isSome_iff_exists.1 h3
   exact getE_key ha
  ·intro hk
   obtain⟨a,ha⟩:=key_getE hk
   rw[h]at ha
   exact⟨(cntAt_key (by rw[ha];simp)).1,by rw[ha];rfl⟩
 rw[hp.length_eq]
 simp[keysE]
theorem found_C {l:List Change} {p:Prefix} {b:Attrs} (h:getE (pairC l) p=some b):l.any (fun c=>decide (c.pfx=p)&& sameA c.attrs b)=true:=by
 have:=getE_mem h
 obtain⟨c,hc,he⟩:=List.mem_map.1 this
 refine List.any_eq_true.2 ⟨c,hc,?_⟩
 cases he
 rw[sameA_refl]
 simp
def outC (l:List Change) (c:Change):List Change:=l.filter (fun x=>!decide (x.pfx=c.pfx))
theorem outC_len (l:List Change) (c:Change):(outC l c).length≤l.length:=List.length_filter_le _ _
theorem outC_succ {l:List Change} {c:Change} {i:Nat} (h:i < l.length):outC (l.take (i + 1)) c=outC (l.take i) c ++ (if l[i].pfx=c.pfx then []else [l[i]]):=by
 unfold outC
 rw[List.take_succ_eq_append_getElem h,List.filter_append]
 congr 1
 by_cases hg:l[i].pfx=c.pfx<;>simp[hg]
theorem laid24_ok (l:List Change) (c:Change) (hb:l.length≤1000):PCon prog 23 [encChs false l,.agg (cellsCh false c)] (encChs false (laidC l c)):=by
 refine callV_of (fn:=Go.Proofs.Tryz.f23) (body:=_) tab_ok mixed rfl rfl (by decide) (by simp[Go.Proofs.Tryz.f23]) ?_
 conv=>whnf
 refine vcg_loop tab_ok mixed (fun i:{i:Nat // i≤l.length}=>⟨[(0,encChs false l),(3,.ptr 0 0),(5,.osl 1 11 0 (outC (l.take i.1) c).length),(6,cI i.1)],[(0,some (.var true 57 (cellsCh false c))),(1,some (.arr true false 57 11 (rowsCh false (outC (l.take i.1) c))))],2⟩) (fun i=>l.length - i.1) ⟨0,by omega⟩ (Wk.i (by repeat' (first|exact LHa|exact LeL.freeV (cellsCh_free false c)|exact .free (encChs_free _ _)|exact .int_of (by simp)|exact .osl0|exact .A|exact LeL.fr rfl|exact LHb|refine Or.inl ⟨by simp,_,rfl,?_⟩|exact Or.inr ⟨by simp,_,_,_,_,rfl⟩|refine⟨rfl,rfl,rfl,rfl,rfl,rfl,?_⟩|refine⟨?_,?_⟩)) (by omega)) (fun i=>?_)
 obtain⟨i,hi⟩:=i
 have hol:(outC (l.take i) c).length≤1000:=Nat.le_trans (outC_len _ _) (by rw[List.length_take];omega)
 conv=>whnf
 intro hgl
 have hgl:l.length≤maxLen:=by simpa[gd,rowsCh]using hgl
 conv=>whnf
 split
 ·rename_i hc
  have hc:i < l.length:=by simpa[rowsCh]using hc
  have hsu:=outC_succ (c:=c) hc
  conv=>whnf
  refine ixK (idxCh hc) ?_
  conv=>whnf
  refine neqP l[i].pfx c.pfx ?_
  conv=>whnf
  refine⟨by kernel_rfl,?_⟩
  cases hin:decide (l[i].pfx=c.pfx)with
  | true=>
   have hx:outC (l.take (i + 1)) c=outC (l.take i) c:=by rw[hsu,if_pos (of_decide_eq_true hin)];simp
   conv=>whnf
   exact⟨⟨i + 1,by omega⟩,(Wk.i (by repeat' (first|exact LHa|exact .free (encChs_free _ _)|exact LeL.freeV (cellsCh_free false c)|exact .osl_of rfl (by omega) (by rw[hx])|exact .int_of (wrap64_succ hc hgl)|exact LeB.arrE (by rw[hx]) (rowsCh_free false _) id id|exact .A|exact LeL.fr rfl|exact LHb|refine Or.inl ⟨by simp,_,rfl,?_⟩|exact Or.inr ⟨by simp,_,_,_,_,rfl⟩|refine⟨rfl,rfl,rfl,rfl,rfl,rfl,?_⟩|refine⟨?_,?_⟩)) (by omega)),by simp only;omega⟩
  | false=>
   have hx:outC (l.take (i + 1)) c=outC (l.take i) c ++ [l[i]]:=by rw[hsu,if_neg (of_decide_eq_false hin)]
   conv=>whnf
   refine ixK (idxCh hc) ?_
   conv=>whnf
   refine⟨rfl,by first|rfl|(simp;done),by first|rfl|decide|(simp;done)|exact⟨rfl,rfl,rfl,rfl,by decide⟩,by simp[rowsCh],⟨by simp[tab,tabOf,nth,rowsCh];omega,by simp[rowsCh];omega⟩,?_⟩
   conv=>whnf
   exact⟨⟨i + 1,by omega⟩,(Wk.all (renOf [(1,3)]) [] (by repeat' (first|exact LHa|exact .free (encChs_free _ _)|exact LeL.freeV (cellsCh_free false c)|exact .osl_of rfl (by omega) (by rw[hx];simp)|exact .int_of (wrap64_succ hc hgl)|exact LeB.arrE' (rows_app hx rfl rfl) (rowsCh_free false _) id id|exact .A|exact LeL.fr rfl|exact LHb|refine Or.inl ⟨by simp,_,rfl,?_⟩|exact Or.inr ⟨by simp,_,_,_,_,rfl⟩|refine⟨rfl,rfl,rfl,rfl,rfl,rfl,?_⟩|refine⟨?_,?_⟩)) (show ∀b∈([0,1]:List Nat),∀b'∈([0,1]:List Nat),(renOf [(1,3)]) b=(renOf [(1,3)]) b'→b=b' by decide) (fun _ h=>by omega) (by omega) (by simp)),by simp only;omega⟩
 rename_i hc
 have hc:i=l.length:=by simp[rowsCh]at hc;omega
 subst hc
 have e0:l.take l.length=l:=List.take_length
 have hc0:(⟨l.length,hi⟩:{i:Nat // i≤l.length}).1=l.length:=rfl
 simp only[hc0,e0]
 rw[e0]at hol
 cases hh:c.has with
 | false=>
  have hw:laidC l c=outC l c:=by rw[laidC,hh];simp[outC]
  conv=>whnf
  rw[hh]
  conv=>whnf
  refine Ends.pure [1] (LeV.fresh_off (LeV.freezeE (ys:=rowsCh false (laidC l c)) (by simp) rfl (by simp[rowsCh]) ?_ (rowsCh_free false _))) (one_none rfl)
  rw[List.drop_zero,hw]
  exact List.take_of_length_le (by simp[rowsCh])
 | true=>
  have hw:laidC l c=outC l c ++ [c]:=by rw[laidC,hh];simp[outC]
  conv=>whnf
  rw[hh]
  conv=>whnf
  refine⟨rfl,by first|rfl|(simp;done),by first|rfl|decide|(simp;done)|exact⟨rfl,rfl,rfl,rfl,by decide⟩,by simp[rowsCh],⟨by simp[tab,tabOf,nth,rowsCh];omega,by simp[rowsCh];omega⟩,?_⟩
  conv=>whnf
  refine Ends.pure [3] (LeV.fresh_off (LeV.freezeE (ys:=rowsCh false (laidC l c)) (by simp) rfl (by simp[rowsCh]) ?_ (rowsCh_free false _))) (one_none rfl)
  rw[List.drop_zero]
  have hr:=rows_app (f:=cellsCh false) (o:=outC l c) (o':=laidC l c) (x:=[c]) (n:=(outC l c).length) (r:=[cellsCh false c]) hw rfl rfl
  refine Eq.trans (congrArg _ hr) ?_
  exact List.take_of_length_le (by rw[hw];simp[rowsCh])
end
section
open Go.Proofs.Tryz (prog)
attribute [local irreducible] CallV RoundV aggK
abbrev rowsUps (l:List Upd):List (List V):=l.map (cellsU false)
def encUps (fr:Bool) (l:List Upd):V:=.sl fr 10 (rowsUps l)
theorem encUps_free (fr:Bool) (l:List Upd):Free (encUps fr l):=.sl fun x hx v hv=>by
 obtain⟨u,_,rfl⟩:=List.mem_map.1 hx
 exact cellsU_free false u v hv
instance {fr l}:FreeI (encUps fr l):=⟨⟨encUps_free fr l⟩⟩
theorem idxUps {l:List Upd} {i:Nat} (h:i < l.length):(rowsUps l)[(i:Int).toNat]? = some (cellsU false l[i]):=by simp[rowsUps,h]
def polZ:Policy:=⟨[],false⟩
theorem bodyB_parts (u:Upd):(bodyB u).length=4 + (prefsB u.gone).length + (aA u.attrs).length + (prefsB u.new).length:=by
 simp only[bodyB,partsU,gB,aB,List.flatten_cons,List.flatten_nil,List.length_append,List.append_nil,twoB,List.length_cons,List.length_nil]
 omega
theorem riseP_nil:riseP []=true:=riseP_iff.2 fun j hj=>by simp at hj
theorem checkU_zero {u:Upd} (h:checkU u=0):mayU u=true∧(bodyB u).length≤493:=by
 unfold checkU at h
 split at h
 ·rename_i hm
  split at h
  ·cases h
  ·exact⟨hm,by omega⟩
 ·cases h
theorem checkU_of {u:Upd} (h:mayU u=true) (hl:(bodyB u).length≤493):checkU u=0:=by
 unfold checkU
 rw[if_pos h,if_neg (by omega)]
theorem check_gone {u:Upd} (h:checkU u=0):checkU ⟨u.gone,[],noA⟩=0:=by
 obtain⟨hm,hl⟩:=checkU_zero h
 obtain⟨h1,h2,h3,h4⟩:=mayU_out hm
 refine checkU_of ?_ ?_
 ·simp only[mayU,Bool.and_eq_true]
  refine⟨⟨⟨h1,riseP_nil⟩,by simp[apartP]⟩,?_⟩
  simp[saidU,sameA_refl]
 ·rw[bodyB_parts]at hl ⊢
  have e:aA noA=[]:=by simp[aA,noA_right]
  simp only[e,show prefsB []=[]from rfl,List.length_nil]
  omega
theorem check_new {u:Upd} (h:checkU u=0):checkU ⟨[],u.new,u.attrs⟩=0:=by
 obtain⟨hm,hl⟩:=checkU_zero h
 obtain⟨h1,h2,h3,h4⟩:=mayU_out hm
 refine checkU_of ?_ ?_
 ·simp only[mayU,Bool.and_eq_true]
  exact⟨⟨⟨riseP_nil,h2⟩,by simp[apartP]⟩,h4⟩
 ·rw[bodyB_parts]at hl ⊢
  simp only[show prefsB []=[]from rfl,List.length_nil]
  omega
theorem dels_len {α:Type}:∀(g:List Prefix) (m:List (Prefix × α)),(delsM m g).length≤m.length
 | [],m=>Nat.le_refl _
 | p :: g,m=>Nat.le_trans (dels_len g (delE m p)) (List.length_filter_le _ _)
theorem same_self {own:UInt32} {pe:Peer} {pol:Policy} {m:List (Prefix × Attrs)} (h:NodE m):(decide (pe=pe)&& decide (own=own)&& sameP pol pol && eqE m m)=true:=by
 rw[show decide (pe=pe)=true by simp,show decide (own=own)=true by simp,sameP_eq.2 rfl,(eqE_perm h h).2 (.refl _)]
 rfl
structure AddsI (pe:Peer) (pol:Policy) (m:List (Prefix × Attrs)) (l:List Change):Prop where
 ok:okM 1 pe pol m
 few:m.length≤64
 cnt:∀q,getE (pairC l) q=cntAt 1 pe pol m q
 nod:NodE (pairC l)
theorem AddsI.len {pe:Peer} {pol:Policy} {m:List (Prefix × Attrs)} {l:List Change} (h:AddsI pe pol m l):l.length≤64:=by
 have:=cnt_seen h.ok.1 h.nod h.cnt
 have h2:=List.length_filter_le (fun q=>(cntAt 1 pe pol m q).isSome) (sortPs (keysE m))
 have h3:(sortPs (keysE m)).length=m.length:=by rw[sortPs_len,keysE_len]
 have:=h.few
 omega
theorem AddsI.nil {pe:Peer} {pol:Policy}:AddsI pe pol [] []:=⟨okM_nil _ _ _,by simp,fun q=>rfl,by simp[NodE,keysE]⟩
theorem chgs_len (own:UInt32) (pe:Peer) (pol pol':Policy) (m n:List (Prefix × Attrs)):(chgs own pe pol pol' m n).length≤m.length + n.length:=by
 refine Nat.le_trans (List.length_filterMap_le _ _) ?_
 rw[sortPs_len]
 refine Nat.le_trans (dd_len _) ?_
 rw[List.length_append,keysE_len,keysE_len]
 exact Nat.le_refl _
theorem LeL.chCells {h:Heap} {nx nx':Nat} {ρ:Nat→Nat} {Z:List Nat} {c:Change}:LeL h nx ρ nx' Z (cellsCh true c) (cellsCh false c):=
 ⟨.fr rfl,.fr rfl,.fr rfl,.fr rfl,.from Less.legs (.fr rfl),.fr rfl,.fr rfl,.fr rfl,.fr rfl,.fr rfl,.from Less.encW (.fr rfl),trivial⟩
theorem AddsI.take {pe:Peer} {pol:Policy} {m:List (Prefix × Attrs)} {l:List Change} (h:AddsI pe pol m l) {g n:List Prefix} {a:Attrs} (ha:smallA a) (h64:¬ 64 < (takeM m g n a).length):AddsI pe pol (takeM m g n a) (laidsC l (chgs 1 pe pol pol m (takeM m g n a))):=
 ⟨okM_of (nod_take h.ok.1) (by omega) (take_small (fun e he=>(h.ok.2.2 e he).1) ha),by omega,laid_chgs h.cnt,nod_laids h.nod⟩
def seenK (pe:Peer) (pol:Policy) (m:List (Prefix × Attrs)) (K:List Prefix) (j:Nat):Nat:=((K.take j).filter fun q=>(cntAt 1 pe pol m q).isSome).length
theorem seen_succ {pe:Peer} {pol:Policy} {m:List (Prefix × Attrs)} {K:List Prefix} {j:Nat} (h:j < K.length):seenK pe pol m K (j + 1)=if(cntAt 1 pe pol m K[j]).isSome then seenK pe pol m K j + 1 else seenK pe pol m K j:=by
 unfold seenK
 rw[List.take_succ_eq_append_getElem h,List.filter_append,List.length_append]
 cases hc:(cntAt 1 pe pol m K[j]).isSome<;>simp[hc]
theorem seen_len (pe:Peer) (pol:Policy) (m:List (Prefix × Attrs)) (K:List Prefix) (j:Nat):seenK pe pol m K j≤K.length:=
 Nat.le_trans (List.length_filter_le _ _) (by rw[List.length_take];omega)
abbrev varIn (pe:Peer) (pol:Policy) (m:List (Prefix × Attrs)):Option Blk:=some (.var true 99 (cellsIn 1 pe pol m))
theorem adds24_ok (pe:Peer) (pol:Policy) (us:List Upd):PCon prog 6 [encPe pe,encPo false pol,encUps false us] (.bool true):=by
 have n0:=num24_ok 0
 have n2:=num24_ok 2
 have n340:=num24_ok 340
 refine callV_of (fn:=Go.Proofs.Tryz.f6) (body:=_) tab_ok mixed rfl rfl (by decide) (by simp[Go.Proofs.Tryz.f6]) ?_
 conv=>whnf
 intro _
 conv=>whnf
 split
 ·conv=>whnf
  refine callV_pure works24_ok trivial ?_
  conv=>whnf
  exact(Ends.pA)
 conv=>whnf
 intro hgu
 have hgu:us.length≤maxLen:=by simpa[gd,rowsUps]using hgu
 conv=>whnf
 split
 ·conv=>whnf
  refine callV_pure works24_ok trivial ?_
  conv=>whnf
  exact(Ends.pA)
 conv=>whnf
 cases hn:newOk 1 pe pol with
 | false=>
  refine callV_pure (new_bad 1 pe pol hn) ⟨.fr rfl,.fr rfl,.fr rfl,trivial⟩ ?_
  conv=>whnf
  refine callV_pure (new_bad 1 pe pol hn) ⟨.fr rfl,.fr rfl,.fr rfl,trivial⟩ ?_
  conv=>whnf
  refine callV_pure n2 ⟨.fr rfl,trivial⟩ ?_
  conv=>whnf
  refine callV_pure n2 ⟨.fr rfl,trivial⟩ ?_
  conv=>whnf
  refine callV_pure n2 ⟨.fr rfl,trivial⟩ ?_
  conv=>whnf
  refine callV_pure works24_ok trivial ?_
  conv=>whnf
  exact(Ends.pA)
 | true=>
 have hnew:=new_ok 1 pe pol hn
 refine callV_frame (nx:=3) (n0:=0) id hnew ⟨.fr rfl,.fr rfl,.fr rfl,trivial⟩ (LeH.nil (by omega) (fun _ h=>by omega) (by simp)) (fun b hb=>by omega) (fun b hb=>by omega) ?_
 rintro v h' nx' ⟨rfl,rfl,rfl⟩ _
 refine⟨.tup [.ptr 3 0,.int .i64 0],[(3,some (.var true 99 (cellsIn 1 pe pol []))),(0,some (.var true 45 (cellsPe pe))),(1,some (.var true 33 (cellsPo false pol))),(2,some (.var true 4 [.bool false]))],.tup ⟨.ptr rfl,.free .int,trivial⟩,(by repeat' (first|exact True.intro|exact Or.inr ⟨by decide,rfl⟩|exact Or.inl ⟨0,rfl,by omega,_,rfl,.var (cellsIn_free _ _ _ _)⟩|refine⟨?_,?_⟩)),?_⟩
 conv=>whnf
 refine callV_frame (nx:=5) (n0:=0) id hnew ⟨.fr rfl,.fr rfl,.fr rfl,trivial⟩ (LeH.nil (by omega) (fun _ h=>by omega) (by simp)) (fun b hb=>by omega) (fun b hb=>by omega) ?_
 rintro v h' nx' ⟨rfl,rfl,rfl⟩ _
 refine⟨.tup [.ptr 5 0,.int .i64 0],[(5,some (.var true 99 (cellsIn 1 pe pol []))),(3,some (.var true 99 (cellsIn 1 pe pol []))),(4,some (.var true 41 [.ptr 3 0])),(2,some (.var true 4 [.bool false]))],.tup ⟨.ptr rfl,.free .int,trivial⟩,(by repeat' (first|exact True.intro|exact Or.inr ⟨by decide,rfl⟩|exact Or.inl ⟨0,rfl,by omega,_,rfl,.var (cellsIn_free _ _ _ _)⟩|refine⟨?_,?_⟩)),?_⟩
 conv=>whnf
 refine callV_pure n0 ⟨.fr rfl,trivial⟩ ?_
 conv=>whnf
 refine vcg_loop tab_ok mixed (fun q:{q:Nat × List (Prefix × Attrs) × List Change // q.1≤us.length∧AddsI pe pol q.2.1 q.2.2}=>⟨[(2,encUps false us),(6,.ptr 2 0),(7,.ptr 4 0),(9,.ptr 5 0),(11,.ptr 6 0),(12,cI q.1.1)],[(2,some (.var true 4 [.bool false])),(3,some (.var true 99 (cellsIn 1 pe pol q.1.2.1))),(4,some (.var true 41 [.ptr 3 0])),(5,some (.var true 99 (cellsIn 1 pe pol q.1.2.1))),(6,some (.var true 46 [encChs false q.1.2.2]))],7⟩) (fun q=>us.length - q.1.1) ⟨(0,[],[]),by simp,AddsI.nil⟩ (Wk.i (by repeat' (first|exact LHa|exact LeL.freeV (cellsIn_free 1 pe _ _)|exact .int_of (by simp)|exact .snil_sl|exact .A|exact LeL.fr rfl|exact LHb|refine Or.inl ⟨by simp,_,rfl,?_⟩|exact Or.inr ⟨by simp,_,_,_,_,rfl⟩|refine⟨rfl,rfl,rfl,rfl,rfl,rfl,?_⟩|refine⟨?_,?_⟩)) (by omega)) (fun q=>?_)
 obtain⟨⟨i,m,l⟩,hi,hI⟩:=q
 have hi:i≤us.length:=hi
 have hI:AddsI pe pol m l:=hI
 conv=>whnf
 intro hgl
 conv=>whnf
 split
 ·rename_i hc
  have hc:i < us.length:=by simpa[rowsUps]using hc
  conv=>whnf
  refine ixK (idxUps hc) ?_
  conv=>whnf
  refine callV_lend [7] (few24_ok false [⟨0,us[i],polZ⟩] 1) ⟨LeV.fresh_off (LeV.freezeR (ys:=[cellsAct false ⟨0,us[i],polZ⟩]) (by simp) rfl (by simp) ⟨⟨.fr rfl,.fr rfl,.fr rfl,.fr rfl,.fr rfl,.fr rfl,.fr rfl,.fr rfl,.fr rfl,.fr rfl,.fr rfl,.snil_sl,.fr rfl,trivial⟩,trivial⟩),.fr rfl,trivial⟩ (by intro v hv;simp at hv;rcases hv with rfl|rfl;exact encActs_cold _;exact .int) (one_none rfl) .bool ?_
  cases hf:few24S [⟨0,us[i],polZ⟩] 1 with
  | false=>
   conv=>whnf
   refine callV_pure works24_ok trivial ?_
   conv=>whnf
   exact(Ends.pA)
  | true=>
  have hfx:few24X ⟨0,us[i],polZ⟩=true:=few24_at hf (i:=0) (by simp)
  obtain⟨hs,ha,hu⟩:=few24_small hfx
  have hs:Small us[i]:=hs
  have ha:smallA us[i].attrs:=ha
  conv=>whnf
  refine ixK (idxUps hc) ?_
  by_cases hck:checkU us[i]=0
  case neg=>
   have hT:=take_bad hI.ok us[i] hs hck
   conv=>whnf
   refine⟨.tup [.snil,.int .i64 2],[(3,varIn pe pol m)],[(3,varIn pe pol m)],fun h nx hrd=>?_,by intro b ob hb;simp at hb;obtain⟨rfl,rfl⟩:=hb;rfl,?_⟩
   ·have h2:hget h 3=varIn pe pol m:=hrd _ _ (by simp)
    exact updV_var (Z:=[]) hT (.tup (by simp;exact⟨.snil,.int⟩)) h2 (by simp) (by simp) (cellsIn_free _ _ _ _) (cellsIn_free _ _ _ _) ⟨.ptr rfl (by omega),.fr rfl,trivial⟩
   conv=>whnf
   refine⟨by kernel_rfl,?_⟩
   conv=>whnf
   refine callV_pure n2 ⟨.fr rfl,trivial⟩ ?_
   conv=>whnf
   exact⟨⟨(i + 1,m,l),by simp only;omega,hI⟩,(Wk.i (by repeat' (first|exact LHa|exact LeL.freeV (cellsIn_free 1 pe _ _)|exact .int_of (wrap64_succ hc hgu)|exact .A|exact LeL.fr rfl|exact LHb|refine Or.inl ⟨by simp,_,rfl,?_⟩|exact Or.inr ⟨by simp,_,_,_,_,rfl⟩|refine⟨rfl,rfl,rfl,rfl,rfl,rfl,?_⟩|refine⟨?_,?_⟩)) (by omega)),by simp only;omega⟩
  by_cases h64:64 < (takeM m us[i].gone us[i].new us[i].attrs).length
  case pos=>
   have hT:=take_full hI.ok us[i] hs hck ha h64
   conv=>whnf
   refine⟨.tup [.snil,.int .i64 340],[(3,varIn pe pol m)],[(3,varIn pe pol m)],fun h nx hrd=>?_,by intro b ob hb;simp at hb;obtain⟨rfl,rfl⟩:=hb;rfl,?_⟩
   ·have h2:hget h 3=varIn pe pol m:=hrd _ _ (by simp)
    exact updV_var (Z:=[]) hT (.tup (by simp;exact⟨.snil,.int⟩)) h2 (by simp) (by simp) (cellsIn_free _ _ _ _) (cellsIn_free _ _ _ _) ⟨.ptr rfl (by omega),.fr rfl,trivial⟩
   conv=>whnf
   refine⟨by kernel_rfl,?_⟩
   conv=>whnf
   refine callV_pure n340 ⟨.fr rfl,trivial⟩ ?_
   conv=>whnf
   exact⟨⟨(i + 1,m,l),by simp only;omega,hI⟩,(Wk.i (by repeat' (first|exact LHa|exact LeL.freeV (cellsIn_free 1 pe _ _)|exact .int_of (wrap64_succ hc hgu)|exact .A|exact LeL.fr rfl|exact LHb|refine Or.inl ⟨by simp,_,rfl,?_⟩|exact Or.inr ⟨by simp,_,_,_,_,rfl⟩|refine⟨rfl,rfl,rfl,rfl,rfl,rfl,?_⟩|refine⟨?_,?_⟩)) (by omega)),by simp only;omega⟩
  have hI':=hI.take (g:=us[i].gone) (n:=us[i].new) ha h64
  have hT:=take_ok hI.ok us[i] hs hck ha (by omega) hI'.ok
  have fw:fewA noA=true:=by decide
  have hkg:okM 1 pe pol (takeM m us[i].gone [] noA):=okM_of (nod_take hI.ok.1) (Nat.le_trans (dels_len _ _) (by have:=hI.few;omega)) (take_small (fun e he=>(hI.ok.2.2 e he).1) noA_small)
  obtain⟨dg,hG⟩:∃d,InC 14 [.ptr 0 0,encU false ⟨us[i].gone,[],noA⟩] (cellsIn 1 pe pol m) (cellsIn 1 pe pol (takeM m us[i].gone [] noA)) (·=.tup [encChs true d,.int .i64 0]):=
   ⟨_,take_ok hI.ok ⟨us[i].gone,[],noA⟩ ⟨hs.gone,by simp,fw⟩ (check_gone hck) noA_small (Nat.le_trans (dels_len _ _) hI.few) hkg⟩
  obtain⟨dn,hN⟩:∃d,InC 14 [.ptr 0 0,encU false ⟨[],us[i].new,us[i].attrs⟩] (cellsIn 1 pe pol (takeM m us[i].gone [] noA)) (cellsIn 1 pe pol (takeM m us[i].gone us[i].new us[i].attrs)) (·=.tup [encChs true d,.int .i64 0]):=
   ⟨_,take_ok hkg ⟨[],us[i].new,us[i].attrs⟩ ⟨by simp,hs.new,hs.few⟩ (check_new hck) ha (show(takeM m us[i].gone us[i].new us[i].attrs).length≤64 by omega) hI'.ok⟩
  have ss:=same24_ok 1 1 pe pe pol pol (takeM m us[i].gone us[i].new us[i].attrs) (takeM m us[i].gone us[i].new us[i].attrs)
  rw[same_self hI'.ok.1]at ss
  have hdl:=chgs_len 1 pe pol pol m (takeM m us[i].gone us[i].new us[i].attrs)
  have hfw:=hI.few
  have hll:=hI.len
  generalize takeM m us[i].gone [] noA=mg at *
  generalize hm':takeM m us[i].gone us[i].new us[i].attrs=m' at *
  generalize hd:chgs 1 pe pol pol m m'=d at *
  generalize hl':laidsC l d=l' at *
  have hso:=sortedA_ok m' (by have:=hI'.few;omega)
  have hsn:=cnt_seen hI'.ok.1 hI'.nod hI'.cnt
  have hkm:∀q∈sortPs (keysE m'),q∈keysE m':=fun q=>mem_sortPs.1
  have hKl:(sortPs (keysE m')).length≤64:=by rw[sortPs_len,keysE_len];exact hI'.few
  generalize sortPs (keysE m')=K at hso hsn hkm hKl
  conv=>whnf
  refine⟨.tup [encChs true d,.int .i64 0],[(3,varIn pe pol m)],[(3,varIn pe pol m')],fun h nx hrd=>?_,by intro b ob hb;simp at hb;obtain⟨rfl,rfl⟩:=hb;rfl,?_⟩
  ·have h2:hget h 3=varIn pe pol m:=hrd _ _ (by simp)
   exact updV_var (Z:=[]) hT (tupCh_free _ _) h2 (by simp) (by simp) (cellsIn_free _ _ _ _) (cellsIn_free _ _ _ _) ⟨.ptr rfl (by omega),.fr rfl,trivial⟩
  conv=>whnf
  refine⟨by kernel_rfl,?_⟩
  conv=>whnf
  refine callV_pure n0 ⟨.fr rfl,trivial⟩ ?_
  conv=>whnf
  refine vcg_loop tab_ok mixed (fun k:{k:Nat // k≤d.length}=>⟨[(2,encUps false us),(6,.ptr 2 0),(7,.ptr 4 0),(9,.ptr 5 0),(11,.ptr 6 0),(12,cI i),(13,encChs true d),(15,cI k.1)],[(2,some (.var true 4 [.bool false])),(3,varIn pe pol m'),(4,some (.var true 41 [.ptr 3 0])),(5,varIn pe pol m),(6,some (.var true 46 [encChs false (laidsC l (d.take k.1))]))],7⟩) (fun k=>d.length - k.1) ⟨0,by omega⟩ (Wk.i (by repeat' (first|exact LHa|exact LeL.freeV (cellsIn_free 1 pe _ _)|exact .int_of (by simp)|exact .fr rfl|exact .A|exact LeL.fr rfl|exact LHb|refine Or.inl ⟨by simp,_,rfl,?_⟩|exact Or.inr ⟨by simp,_,_,_,_,rfl⟩|refine⟨rfl,rfl,rfl,rfl,rfl,rfl,?_⟩|refine⟨?_,?_⟩)) (by omega)) (fun k=>?_)
  obtain⟨k,hk⟩:=k
  have hlk:=laidsC_len (d.take k) l
  rw[List.length_take,Nat.min_eq_left hk]at hlk
  conv=>whnf
  intro hgd
  have hgd:d.length≤maxLen:=by simpa[gd,rowsCh]using hgd
  conv=>whnf
  split
  ·rename_i hck
   have hck:k < d.length:=by simpa[rowsCh]using hck
   have hst:laidsC l (d.take (k + 1))=laidC (laidsC l (d.take k)) d[k]:=by
    unfold laidsC
    rw[List.take_succ_eq_append_getElem hck,List.foldl_append]
    rfl
   have hla:=laid24_ok (laidsC l (d.take k)) d[k] (by omega)
   rw[← hst]at hla
   conv=>whnf
   refine ixK (idxCh hck) ?_
   conv=>whnf
   refine⟨_,[],fun h nx _=>pureV_pure hla ⟨.fr rfl,.aggL LeL.chCells,trivial⟩,by simp,?_⟩
   conv=>whnf
   refine⟨by kernel_rfl,?_⟩
   conv=>whnf
   exact⟨⟨k + 1,by omega⟩,(Wk.i (by repeat' (first|exact LHa|exact LeL.freeV (cellsIn_free 1 pe _ _)|exact .int_of (wrap64_succ hck hgd)|exact .A|exact LeL.fr rfl|exact LHb|refine Or.inl ⟨by simp,_,rfl,?_⟩|exact Or.inr ⟨by simp,_,_,_,_,rfl⟩|refine⟨rfl,rfl,rfl,rfl,rfl,rfl,?_⟩|refine⟨?_,?_⟩)) (by omega)),by simp only;omega⟩
  rename_i hck
  have hck:k=d.length:=by simp[rowsCh]at hck;omega
  subst hck
  have e0:laidsC l (d.take d.length)=l':=by rw[List.take_length];exact hl'
  have e1:(⟨d.length,hk⟩:{k:Nat // k≤d.length}).1=d.length:=rfl
  simp only[e1,e0]
  conv=>whnf
  refine ixK (idxUps hc) ?_
  conv=>whnf
  refine callV_in (b:=5) hG rfl (cellsIn_free _ _ _ _) (cellsIn_free _ _ _ _) ⟨.ptr rfl (by omega),.aggL ⟨.fr rfl,.snil_sl,.fr rfl,.snil_sl,.fr rfl,.fr rfl,.fr rfl,.fr rfl,.fr rfl,.snil_sl,trivial⟩,trivial⟩ ?_
  rintro v rfl
  refine⟨tupCh_free _ _,?_⟩
  show _
  conv=>whnf
  refine ixK (idxUps hc) ?_
  conv=>whnf
  refine ixK (idxUps hc) ?_
  conv=>whnf
  refine⟨.tup [encChs true dn,.int .i64 0],[(5,varIn pe pol mg)],[(5,varIn pe pol m')],fun h nx hrd=>?_,by intro b ob hb;simp at hb;obtain⟨rfl,rfl⟩:=hb;rfl,?_⟩
  ·have h2:hget h 5=varIn pe pol mg:=hrd _ _ (by simp)
   exact updV_var (Z:=[]) hN (tupCh_free _ _) h2 (by simp) (by simp) (cellsIn_free _ _ _ _) (cellsIn_free _ _ _ _) ⟨.ptr rfl (by omega),.aggL ⟨.snil_sl,.fr rfl,.fr rfl,.fr rfl,.fr rfl,.fr rfl,.fr rfl,.fr rfl,.fr rfl,.fr rfl,trivial⟩,trivial⟩
  conv=>whnf
  refine⟨by kernel_rfl,?_⟩
  conv=>whnf
  refine callV_pure n0 ⟨.fr rfl,trivial⟩ ?_
  conv=>whnf
  refine callV_pure n0 ⟨.fr rfl,trivial⟩ ?_
  conv=>whnf
  refine callV_frame (nx:=7) (n0:=2) (renOf [(0,3),(1,5)]) (ss) (by repeat' (first|exact True.intro|exact .ptr rfl (by omega)|exact LeL.freeV (cellsIn_free _ _ _ _)|exact .A|exact LeL.fr rfl|refine⟨?_,?_⟩)) (LeH.of (by repeat' (first|exact LHa|exact .ptr rfl (by omega)|exact LeL.freeV (cellsIn_free _ _ _ _)|exact .A|exact LeL.fr rfl|exact LHb|refine Or.inl ⟨by simp,_,rfl,?_⟩|exact Or.inr ⟨by simp,_,_,_,_,rfl⟩|refine⟨rfl,rfl,rfl,rfl,rfl,rfl,?_⟩|refine⟨?_,?_⟩)) (show ∀b∈([0,1]:List Nat),∀b'∈([0,1]:List Nat),(renOf [(0,3),(1,5)]) b=(renOf [(0,3),(1,5)]) b'→b=b' by decide) (fun _ h=>by omega) (by omega) (by simp)) (fun b hb=>by match b,hb with|0,_=>exact ne_none_of rfl|1,_=>exact ne_none_of rfl) (by decide) ?_
  rintro v h' nx' ⟨rfl,rfl,rfl⟩ _
  refine⟨.bool true,[(3,varIn pe pol m'),(5,varIn pe pol m'),(2,some (.var true 4 [.bool false])),(4,some (.var true 41 [.ptr 3 0])),(6,some (.var true 46 [encChs false l']))],.free .bool,(by repeat' (first|exact True.intro|exact Or.inr ⟨by decide,rfl⟩|exact Or.inl ⟨0,rfl,by omega,_,rfl,.var (cellsIn_free _ _ _ _)⟩|exact Or.inl ⟨1,rfl,by omega,_,rfl,.var (cellsIn_free _ _ _ _)⟩|refine⟨?_,?_⟩)),?_⟩
  conv=>whnf
  refine callV_in (b:=3) (len24_ok 1 pe pol m') rfl (cellsIn_free _ _ _ _) (cellsIn_free _ _ _ _) ⟨.ptr rfl (by omega),trivial⟩ ?_
  rintro v rfl
  refine⟨.int,?_⟩
  show _
  conv=>whnf
  split
  case' h_1 hh=>exfalso;simp at hh;omega
  conv=>whnf
  refine callV_in (b:=3) (all24_ok 1 pe pol m') rfl (cellsIn_free _ _ _ _) (cellsIn_free _ _ _ _) ⟨.ptr rfl (by omega),trivial⟩ ?_
  rintro v rfl
  refine⟨.fn (by simp) (by intro v hv;simp at hv;subst hv;exact .iptr (by intro v hv;simp at hv;subst hv;exact imapA_free m')),?_⟩
  show _
  conv=>whnf
  refine callV_loop [(2,encUps false us),(6,.ptr 2 0),(7,.ptr 4 0),(9,.ptr 5 0),(11,.ptr 6 0),(12,cI i),(20,.ptr 7 0)] ⟨rfl,rfl,rfl,rfl,rfl,rfl,rfl,trivial⟩ fun asg' body' hasg hbody=>?_
  refine callV_of (fn:=Go.Proofs.Tryz.f43) (body:=_) tab_ok mixed rfl rfl (by decide) (by simp[Go.Proofs.Tryz.f43]) ?_
  conv=>whnf
  refine callV_pure hso ⟨.fr rfl,trivial⟩ ?_
  conv=>whnf
  intro hgk
  have hgk:K.length≤maxLen:=by simpa[gd]using hgk
  conv=>whnf
  refine vcg_loop tab_ok mixed (fun j:{j:Nat // j≤K.length}=>⟨[(0,.yld 8),(1,.iptr true [.imap false (esA m')]),(6,encPs true K),(7,cI K.length),(8,cI j.1)],[(8,some (.loop 189 [(2,encUps false us),(6,.ptr 2 0),(7,.ptr 4 0),(9,.ptr 5 0),(11,.ptr 6 0),(12,cI i),(20,.ptr 7 0)] [144,145] asg' body' .ready none)),(2,some (.var true 4 [.bool false])),(3,varIn pe pol m'),(4,some (.var true 41 [.ptr 3 0])),(5,varIn pe pol m'),(6,some (.var true 46 [encChs false l'])),(7,some (.var true 3 [cI (seenK pe pol m' K j.1)]))],9⟩) (fun j=>K.length - j.1) ⟨0,by omega⟩ (Wk.i (by repeat' (first|exact LHa|exact LeL.freeV (cellsIn_free 1 pe _ _)|exact .int_of (by simp)|exact .int_of (by simp[seenK])|exact .free (.iptr (by intro v hv;simp at hv;subst hv;exact imapA_free m'))|exact .A|exact LeL.fr rfl|exact LHb|refine Or.inl ⟨by simp,_,rfl,?_⟩|exact Or.inr ⟨by simp,_,_,_,_,rfl⟩|refine⟨rfl,rfl,rfl,rfl,rfl,rfl,?_⟩|refine⟨?_,?_⟩)) (by omega)) (fun j=>?_)
  obtain⟨j,hj⟩:=j
  conv=>whnf
  split
  ·rename_i hcj
   have hcj:j < K.length:=by simpa using hcj
   have hkj:=hkm K[j] (List.getElem_mem hcj)
   obtain⟨a0,hget⟩:=key_getE hkj
   have hsm:smallA a0:=(hI'.ok.2.2 _ (getE_mem hget)).1
   have hcn:=counts24_ok hI'.ok K[j]
   have hcp:=copy_pure false a0 hsm.1 hsm.2.1 hsm.2.2
   have hseen:=seen_succ (pe:=pe) (pol:=pol) (m:=m') hcj
   conv=>whnf
   refine ixK (idxP hcj) ?_
   conv=>whnf
   refine⟨esA_keys _,keyP _,some (encA false a0),look_some hget,?_⟩
   conv=>whnf
   refine⟨_,[],fun h nx _=>pureV_pure hcp ⟨.fr rfl,trivial⟩,by simp,?_⟩
   conv=>whnf
   refine⟨by kernel_rfl,?_⟩
   conv=>whnf
   show RoundV _ _ _ _ _ _ _ _ _ 10 _
   refine roundV_eq tab_ok mixed hasg hbody rfl (by simp) (show 8 < 10 by omega) ?_
   conv=>whnf
   refine⟨rfl,?_⟩
   conv=>whnf
   refine callV_in (b:=3) hcn rfl (cellsIn_free _ _ _ _) (cellsIn_free _ _ _ _) ⟨.ptr rfl (by omega),.fr rfl,trivial⟩ ?_
   rintro v rfl
   refine⟨rtV_free _ _ _ _,?_⟩
   show _
   conv=>whnf
   have hcntj:=hI'.cnt K[j]
   rw[cntAt]at hcntj
   generalize hgo:(getE m' K[j]).bind (cnt 1 pe pol K[j])=o at hcntj ⊢
   cases o with
   | none=>
    rw[if_neg (by rw[cntAt,hgo];simp)]at hseen
    conv=>whnf
    refine⟨rfl,?_⟩
    conv=>whnf
    exact⟨⟨j + 1,by omega⟩,(Wk.i (by repeat' (first|exact LHa|exact LeL.freeV (cellsIn_free 1 pe _ _)|exact .int_of (wrap64_succ hcj hgk)|exact .int_of (by rw[hseen])|exact .free (.iptr (by intro v hv;simp at hv;subst hv;exact imapA_free m'))|exact .A|exact LeL.fr rfl|exact LHb|refine Or.inl ⟨by simp,_,rfl,?_⟩|exact Or.inr ⟨by simp,_,_,_,_,rfl⟩|refine⟨rfl,rfl,rfl,rfl,rfl,rfl,?_⟩|refine⟨?_,?_⟩)) (by omega)),by simp only;omega⟩
   | some b=>
    rw[if_pos (by rw[cntAt,hgo];simp)]at hseen
    conv=>whnf
    have hsl:=seen_len pe pol m' K (j + 1)
    have hfd:=found_C hcntj
    have hws:IntKind.i64.wrap ((seenK pe pol m' K j:Nat)+ 1:Int)=((seenK pe pol m' K (j + 1):Nat):Int):=by
     rw[hseen]at hsl ⊢
     exact wrap64_succ (n:=K.length) hsl hgk
    refine vcg_loop tab_ok mixed (fun k:{k:Nat // k≤l'.length}=>⟨[(2,encUps false us),(6,.ptr 2 0),(7,.ptr 4 0),(9,.ptr 5 0),(11,.ptr 6 0),(12,cI i),(20,.ptr 7 0),(21,.ptr 10 0),(22,.ptr 11 0),(24,.bool ((l'.take k.1).any fun c=>decide (c.pfx=K[j])&& sameA c.attrs b)),(25,cI k.1)],[(8,some (.loop 189 [(2,encUps false us),(6,.ptr 2 0),(7,.ptr 4 0),(9,.ptr 5 0),(11,.ptr 6 0),(12,cI i),(20,.ptr 7 0)] [144,145] asg' body' .busy none)),(2,some (.var true 4 [.bool false])),(3,varIn pe pol m'),(4,some (.var true 41 [.ptr 3 0])),(5,varIn pe pol m'),(6,some (.var true 46 [encChs false l'])),(7,some (.var true 3 [cI (seenK pe pol m' K (j + 1))])),(10,some (.var true 53 (cellsP K[j]))),(11,some (.var true 75 (cellsRt true ⟨K[j],b,pe⟩)))],12⟩) (fun k=>l'.length - k.1) ⟨0,by omega⟩ (Wk.i (by repeat' (first|exact LHa|exact LeL.freeV (cellsIn_free 1 pe _ _)|exact .bool_of (by simp)|exact .int_of hws|exact .int_of (by simp)|exact .A|exact LeL.fr rfl|exact LHb|refine Or.inl ⟨by simp,_,rfl,?_⟩|exact Or.inr ⟨by simp,_,_,_,_,rfl⟩|refine⟨rfl,rfl,rfl,rfl,rfl,rfl,?_⟩|refine⟨?_,?_⟩)) (by omega)) (fun k=>?_)
    obtain⟨k,hk2⟩:=k
    conv=>whnf
    intro hgl'
    have hgl':l'.length≤maxLen:=by simpa[gd,rowsCh]using hgl'
    conv=>whnf
    split
    ·rename_i hcl
     have hcl:k < l'.length:=by simpa[rowsCh]using hcl
     have hsk:∀x,(l'.take k).any (fun c=>decide (c.pfx=K[j])&& sameA c.attrs b)=x→(l'.take (k + 1)).any (fun c=>decide (c.pfx=K[j])&& sameA c.attrs b)=(x || (decide (l'[k].pfx=K[j])&& sameA l'[k].attrs b)):=fun x hx=>by
      subst hx
      rw[List.take_succ_eq_append_getElem hcl,List.any_append]
      simp
     have sm:=ref_same_ok false true l'[k].attrs b
     cases hin:(l'.take k).any (fun c=>decide (c.pfx=K[j])&& sameA c.attrs b)with
     | true=>
      conv=>whnf
      refine⟨by kernel_rfl,?_⟩
      conv=>whnf
      exact⟨⟨k + 1,by omega⟩,(Wk.i (by repeat' (first|exact LHa|exact LeL.freeV (cellsIn_free 1 pe _ _)|exact .bool_of (by rw[hsk _ hin];simp)|exact .int_of (wrap64_succ hcl hgl')|exact .A|exact LeL.fr rfl|exact LHb|refine Or.inl ⟨by simp,_,rfl,?_⟩|exact Or.inr ⟨by simp,_,_,_,_,rfl⟩|refine⟨rfl,rfl,rfl,rfl,rfl,rfl,?_⟩|refine⟨?_,?_⟩)) (by omega)),by simp only;omega⟩
     | false=>
     conv=>whnf
     refine ixK (idxCh hcl) ?_
     conv=>whnf
     refine eqlP l'[k].pfx K[j] ?_
     cases hpk:decide (l'[k].pfx=K[j])with
     | false=>
      conv=>whnf
      refine⟨by kernel_rfl,?_⟩
      conv=>whnf
      exact⟨⟨k + 1,by omega⟩,(Wk.i (by repeat' (first|exact LHa|exact LeL.freeV (cellsIn_free 1 pe _ _)|exact .bool_of (by rw[hsk _ hin,hpk];simp)|exact .int_of (wrap64_succ hcl hgl')|exact .A|exact LeL.fr rfl|exact LHb|refine Or.inl ⟨by simp,_,rfl,?_⟩|exact Or.inr ⟨by simp,_,_,_,_,rfl⟩|refine⟨rfl,rfl,rfl,rfl,rfl,rfl,?_⟩|refine⟨?_,?_⟩)) (by omega)),by simp only;omega⟩
     | true=>
     conv=>whnf
     refine ixK (idxCh hcl) ?_
     conv=>whnf
     refine⟨_,[],fun h nx _=>pureV_pure sm ⟨.fr rfl,.fr rfl,trivial⟩,by simp,?_⟩
     conv=>whnf
     refine⟨by kernel_rfl,?_⟩
     conv=>whnf
     exact⟨⟨k + 1,by omega⟩,(Wk.i (by repeat' (first|exact LHa|exact LeL.freeV (cellsIn_free 1 pe _ _)|exact .bool_of (by rw[hsk _ hin,hpk];simp)|exact .int_of (wrap64_succ hcl hgl')|exact .A|exact LeL.fr rfl|exact LHb|refine Or.inl ⟨by simp,_,rfl,?_⟩|exact Or.inr ⟨by simp,_,_,_,_,rfl⟩|refine⟨rfl,rfl,rfl,rfl,rfl,rfl,?_⟩|refine⟨?_,?_⟩)) (by omega)),by simp only;omega⟩
    rename_i hcl
    have hcl:k=l'.length:=by simp[rowsCh]at hcl;omega
    subst hcl
    have e2:(⟨l'.length,hk2⟩:{k:Nat // k≤l'.length}).1=l'.length:=rfl
    rw[e2,List.take_length,hfd]
    conv=>whnf
    refine⟨rfl,?_⟩
    conv=>whnf
    exact⟨⟨j + 1,by omega⟩,(Wk.i (by repeat' (first|exact LHa|exact LeL.freeV (cellsIn_free 1 pe _ _)|exact .int_of (wrap64_succ hcj hgk)|exact .free (.iptr (by intro v hv;simp at hv;subst hv;exact imapA_free m'))|exact .A|exact LeL.fr rfl|exact LHb|refine Or.inl ⟨by simp,_,rfl,?_⟩|exact Or.inr ⟨by simp,_,_,_,_,rfl⟩|refine⟨rfl,rfl,rfl,rfl,rfl,rfl,?_⟩|refine⟨?_,?_⟩)) (by omega)),by simp only;omega⟩
  rename_i hcj
  have hcj:j=K.length:=by simp at hcj;omega
  subst hcj
  have e3:seenK pe pol m' K (⟨K.length,hj⟩:{j:Nat // j≤K.length}).1=l'.length:=by
   show seenK pe pol m' K K.length=_
   rw[← hsn,seenK,List.take_length]
  rw[e3]
  conv=>whnf
  refine⟨_,_,_,Ends.here,?_⟩
  conv=>whnf
  intro hgl'
  have hgl':l'.length≤maxLen:=by simpa[gd,rowsCh]using hgl'
  conv=>whnf
  split
  case' h_1 hh=>exfalso;simp[rowsCh]at hh
  conv=>whnf
  exact⟨⟨(i + 1,m',l'),by simp only;omega,hI'⟩,(Wk.i (by repeat' (first|exact LHa|exact LeL.freeV (cellsIn_free 1 pe _ _)|exact .int_of (wrap64_succ hc hgu)|exact .A|exact LeL.fr rfl|exact LHb|refine Or.inl ⟨by simp,_,rfl,?_⟩|exact Or.inr ⟨by simp,_,_,_,_,rfl⟩|refine⟨rfl,rfl,rfl,rfl,rfl,rfl,?_⟩|refine⟨?_,?_⟩)) (by omega)),by simp only;omega⟩
 rename_i hc
 conv=>whnf
 refine callV_pure works24_ok trivial ?_
 conv=>whnf
 exact(Ends.pA)
end
end Go.Proofs.YtfaglgoanmcifaaGreat
