/-
  What a table of functions has. Conditions: none.
-/
import Derived.Test.YtdolmkdbpnlegaaGreatDoorF3
namespace Go.Am
structure Tab (tab : Nat → Option PFn) : Prop where
  t3 : tab 3 = some f3.fn
  t4 : tab 4 = some f4.fn
  t5 : tab 5 = some f5.fn
  t6 : tab 6 = some f6.fn
  t7 : tab 7 = some f7.fn
  t9 : tab 9 = some f9.fn
  t10 : tab 10 = some f10.fn
  t11 : tab 11 = some f11.fn
  t12 : tab 12 = some f12.fn
  t13 : tab 13 = some f13.fn
  t14 : tab 14 = some f14.fn
  t15 : tab 15 = some f15.fn
  t16 : tab 16 = some f16.fn
  t17 : tab 17 = some f17.fn
  t18 : tab 18 = some f18.fn
  t19 : tab 19 = some f19.fn
  t20 : tab 20 = some f20.fn
  t21 : tab 21 = some f21.fn
  t24 : tab 24 = some f24.fn
  t25 : tab 25 = some f25.fn
  t26 : tab 26 = some f26.fn
  t27 : tab 27 = some f27.fn
  t28 : tab 28 = some f28.fn
  t29 : tab 29 = some f29.fn
  t30 : tab 30 = some f30.fn
  t33 : tab 33 = some f33.fn
  t34 : tab 34 = some f34.fn
  t35 : tab 35 = some f35.fn
  t42 : tab 42 = some f42.fn
  t43 : tab 43 = some f43.fn
  t44 : tab 44 = some f44.fn
  t46 : tab 46 = some f46.fn
  t47 : tab 47 = some f47.fn
  t51 : tab 51 = some f51.fn
  t61 : tab 61 = some f61.fn
  t85 : tab 85 = some f85.fn
end Go.Am
