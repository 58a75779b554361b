/-
  What a table of functions has. Conditions: none.
-/
import Derived.Test.YtkgjghlklniaeaaF2
namespace Go.Am
structure Tab (tab : Nat → Option PFn) : Prop where
  t7 : tab 7 = some f7.fn
  t9 : tab 9 = some f9.fn
  t10 : tab 10 = some f10.fn
  t11 : tab 11 = some f11.fn
  t12 : tab 12 = some f12.fn
  t14 : tab 14 = some f14.fn
  t15 : tab 15 = some f15.fn
  t16 : tab 16 = some f16.fn
  t17 : tab 17 = some f17.fn
  t18 : tab 18 = some f18.fn
  t19 : tab 19 = some f19.fn
  t20 : tab 20 = some f20.fn
  t22 : tab 22 = some f22.fn
  t23 : tab 23 = some f23.fn
  t24 : tab 24 = some f24.fn
  t25 : tab 25 = some f25.fn
  t26 : tab 26 = some f26.fn
  t27 : tab 27 = some f27.fn
  t28 : tab 28 = some f28.fn
  t35 : tab 35 = some f35.fn
  t36 : tab 36 = some f36.fn
  t37 : tab 37 = some f37.fn
  t38 : tab 38 = some f38.fn
  t39 : tab 39 = some f39.fn
  t40 : tab 40 = some f40.fn
  t41 : tab 41 = some f41.fn
  t42 : tab 42 = some f42.fn
  t43 : tab 43 = some f43.fn
  t44 : tab 44 = some f44.fn
  t45 : tab 45 = some f45.fn
  t46 : tab 46 = some f46.fn
  t47 : tab 47 = some f47.fn
  t48 : tab 48 = some f48.fn
  t49 : tab 49 = some f49.fn
  t50 : tab 50 = some f50.fn
  t51 : tab 51 = some f51.fn
  t52 : tab 52 = some f52.fn
  t53 : tab 53 = some f53.fn
  t54 : tab 54 = some f54.fn
  t55 : tab 55 = some f55.fn
  t56 : tab 56 = some f56.fn
  t57 : tab 57 = some f57.fn
  t72 : tab 72 = some f72.fn
  t73 : tab 73 = some f73.fn
  t74 : tab 74 = some f74.fn
  t75 : tab 75 = some f75.fn
  t76 : tab 76 = some f76.fn
  t77 : tab 77 = some f77.fn
  t78 : tab 78 = some f78.fn
  t79 : tab 79 = some f79.fn
  t80 : tab 80 = some f80.fn
  t81 : tab 81 = some f81.fn
  t83 : tab 83 = some f83.fn
  t84 : tab 84 = some f84.fn
  t85 : tab 85 = some f85.fn
  t97 : tab 97 = some f97.fn
  t98 : tab 98 = some f98.fn
  t99 : tab 99 = some f99.fn
  t100 : tab 100 = some f100.fn
  t101 : tab 101 = some f101.fn
  t102 : tab 102 = some f102.fn
  t103 : tab 103 = some f103.fn
  t104 : tab 104 = some f104.fn
  t106 : tab 106 = some f106.fn
  t110 : tab 110 = some f110.fn
  t111 : tab 111 = some f111.fn
  t112 : tab 112 = some f112.fn
end Go.Am
